/- A step of the typed logic of this claim is proved here: what an operation does to the data that slots and memory stand for. -/
import Derived.Test.YtmjacadeccoclaaT2
import Derived.Still
set_option linter.all false
namespace Go.Tw
open Go Go.RowKit

def prodT : List Ty → Ty
  | [] => .un
  | t :: ts => .pr t (prodT ts)

/-- What results are: owned (is nothing in them borrowed?), or borrowed from the arguments. -/
inductive RM where
  | own (fr : Bool)
  | bor
  /-- owned; what is written through is moved, and may come back within a result -/
  | mv

/-- What is written through: slices with all that is in them; boxes of what is only read. -/
def frT : Ty → Bool
  | .ref _ => false
  | _ => true

/-- A function's contract: its parameters (is there written through it?), its results, its mirror. -/
structure Con where
  f : FuncId
  ps : List (Ty × Bool)
  rs : List Ty
  rm : RM
  m : den (prodT (ps.map (·.1))) → Option (den (prodT rs) × den (prodT ((ps.filter (·.2)).map (·.1))))

/-- no slices in what it answers -/
def flatCon (c : Con) : Bool := c.ps.all (fun p => !p.2) && c.rs.all fun t => !hasSl t
def fitB : List (Ty × Bool) → List TV → Bool
  | (.cl g _, _) :: ps, .fn (.func g') _ _ :: xs => Nat.beq g g' && fitB ps xs
  | _ :: ps, _ :: xs => fitB ps xs
  | _, _ => true
def cget : List Con → FuncId → List TV → Option Con
  | [], _, _ => none
  | c :: cs, f, xs => bif Nat.beq f c.f && fitB c.ps xs then some c else cget cs f xs

/-- A datum's trees become regions. -/
def opnC (fr : Bool) : List TV → Heap → Nat → List TV × Heap × Nat
  | [], h, n => ([], h, n)
  | .tr t l :: cs, h, n => let q := opnC fr cs ((n, .row fr t l) :: h) (n + 1); (.full n :: q.1, q.2)
  | .iptr t l _ _ :: cs, h, n => let q := opnC fr cs ((n, .box (encT t (l.headD (dflt t)))) :: h) (n + 1); (.ptr n 0 0 :: q.1, q.2)
  | c :: cs, h, n => let q := opnC fr cs h n; (c :: q.1, q.2)
def opnV (fr : Bool) (t : Ty) (x : den t) (h : Heap) (n : Nat) : TV × Heap × Nat :=
  let q := opnC fr (encT t x) h n
  (pack (isAg t) q.1, q.2)
def opnL (fr : Bool) : (ts : List Ty) → den (prodT ts) → Heap → Nat → List TV × Heap × Nat
  | [], _, h, n => ([], h, n)
  | t :: ts, x, h, n => let q := opnV fr t x.1 h n; let z := opnL fr ts x.2 q.2.1 q.2.2; (q.1 :: z.1, z.2)
/-- the arguments that are written through -/
def opnG : (ts : List Ty) → den (prodT ts) → Heap → Nat → List TV × Heap × Nat
  | [], _, h, n => ([], h, n)
  | t :: ts, x, h, n => let q := opnV (frT t) t x.1 h n; let z := opnG ts x.2 q.2.1 q.2.2; (q.1 :: z.1, z.2)
/-- the value of results -/
def retT : List TV → TV
  | [v] => v
  | vs => .tup vs
def valL : (ts : List Ty) → den (prodT ts) → List TV
  | [], _ => []
  | t :: ts, x => valT t x.1 :: valL ts x.2
def opnR (rm : RM) (ts : List Ty) (x : den (prodT ts)) (h : Heap) (n : Nat) : TV × Heap × Nat :=
  match rm with
  | .own fr => let q := opnL fr ts x h n; (retT q.1, q.2)
  | .bor => (retT (valL ts x), h, n)
  | .mv => let q := opnL true ts x h n; (retT q.1, q.2)

/-- The cells of a value of a type. -/
def cellsOf (t : Ty) (x : TV) : Option (List TV) :=
  match x with
  | .agg cs => bif isAg t then some cs else none
  | x => bif isAg t then none else some [x]
/-- What is seen of cells while nothing is written. -/
def seeT (h : Heap) : (t : Ty) → List TV → Option (den t × List TV)
  | .int k, cs => match cs with
    | .p (.int k' n) :: r => if k' = k then some ((n : Int), r) else none
    | _ => none
  | .bool, cs => match cs with
    | .p (.bool b) :: r => some (b, r)
    | _ => none
  | .str, cs => match cs with
    | .p (.string s) :: r => some (s, r)
    | _ => none
  | .un, r => some ((), r)
  | .pr a b, r => (seeT h a r).bind fun p => (seeT h b p.2).bind fun q => some ((p.1, q.1), q.2)
  | .sl t, cs => match cs with
    | c :: r => (frzC h c).bind fun f => match f with
      | .tr t' l => (cast t' t l).bind fun l => some (l, r)
      | .p (.slice none 0 0) => some ([], r)
      | _ => none
    | _ => none
  | .ref t, cs => match cs with
    | .iptr t' [y] 0 0 :: r => (cast t' t [y]).bind fun l => some (l.headD (dflt t), r)
    | .ptr k 0 0 :: r => match hget h k with
      | some (.box cs) => (match seeT h t cs with | some (x, []) => some (x, r) | _ => none)
      | _ => none
    | _ => none
  | .cl g t, cs => match cs with
    | .fn (.func g') [] ca :: r => bif Nat.beq g' g then (match seeT h t ca with | some (x, []) => some (x, r) | _ => none) else none
    | _ => none
def see1 (h : Heap) (t : Ty) (cs : List TV) : Option (den t) :=
  match seeT h t cs with
  | some (x, []) => some x
  | _ => none
/-- What a callee sees of its arguments. -/
def argL (h : Heap) : (ps : List (Ty × Bool)) → List TV → Option (den (prodT (ps.map (·.1))))
  | [], [] => some ()
  | p :: ps, x :: xs => (cellsOf p.1 x).bind fun cs => (see1 h p.1 cs).bind fun y => (argL h ps xs).bind fun z => some (y, z)
  | _, _ => none
/-- What a callee has written into the memory of an argument's cells. -/
def wbC (h : Heap) : List TV → List TV → Option Heap
  | [], [] => some h
  | .p _ :: cs, _ :: ds => wbC h cs ds
  | .full r :: cs, .tr t l :: ds =>
    match hget h r with
    | some (.row true t' _) => if t = t' then wbC (bif hasSl t then killH r (hset h r (.row true t l)) else hset h r (.row true t l)) cs ds else none
    | _ => none
  | .inn r i off :: cs, d :: ds =>
    match hget h r with
    | some (.row true t l) => (dec1 t (spl (encT t (l.getD i (dflt t))) off [d])).bind fun e => wbC (hset h r (.row true t (l.set i e))) cs ds
    | _ => none
  | _, _ => none
/-- the regions that cells refer to -/
def refs : List TV → List (Nat × Option (Nat × Nat))
  | [] => []
  | .full r :: cs => (r, none) :: refs cs
  | .inn r i off :: cs => (r, some (i, off)) :: refs cs
  | _ :: cs => refs cs
/-- no two meet: all whole regions apart, or inner slices of one element at places apart -/
def apartB : List (Nat × Option (Nat × Nat)) → Bool
  | [] => true
  | (r, none) :: qs => qs.all (fun q => !Nat.beq q.1 r) && apartB qs
  | (r, some (_, o)) :: qs => qs.all (fun q => !Nat.beq q.1 r || (match q.2 with | some (_, o') => !Nat.beq o o' | none => false)) && apartB qs
def wbL : (ps : List (Ty × Bool)) → List TV → den (prodT ((ps.filter (·.2)).map (·.1))) → Heap → Option (Heap × List TV)
  | [], [], _, h => some (h, [])
  | (t, false) :: ps, _ :: xs, y, h => wbL ps xs y h
  | (t, true) :: ps, x :: xs, y, h => (cellsOf t x).bind fun cs => (wbC h cs (encT t y.1)).bind fun h1 => (wbL ps xs y.2 h1).bind fun q => some (q.1, cs ++ q.2)
  | _, _, _, _ => none
def killAll : List (Nat × Option (Nat × Nat)) → List (Nat × TV) → List (Nat × TV)
  | [], s => s
  | (r, none) :: qs, s => killAll qs (killS r s)
  | (_, some _) :: qs, s => killAll qs s

/-! One argument that is written through: a whole region, or an inner slice of one. -/
def wDat (h : Heap) : (t : Ty) → TV → Option (den t)
  | .sl t, .full r => match hget h r with
    | some (.row true t' l) => cast t' t l
    | _ => none
  | .sl t, .inn r i off => match hget h r with
    | some (.row true t0 l) => (match ((encT t0 (l.getD i (dflt t0))).drop off).headD .undef with
      | .tr t' l' => cast t' t l'
      | _ => none)
    | _ => none
  | _, _ => none
def wNew (h : Heap) : (t : Ty) → TV → den t → Option Reg
  | .sl t, .full _, l => some (.row true t l)
  | .sl t, .inn r i off, l' => match hget h r with
    | some (.row true t0 l) => (dec1 t0 (spl (encT t0 (l.getD i (dflt t0))) off [.tr t l'])).map fun e => .row true t0 (l.set i e)
    | _ => none
  | _, _, _ => none
def isRow : Option Reg → Bool
  | some (.row _ _ _) => true
  | _ => false
def wReg : List (Ty × Bool) → List TV → Option Nat
  | (_, false) :: ps, _ :: xs => wReg ps xs
  | (_, true) :: ps, x :: _ => bif ps.all (fun p => !p.2) then (match x with | .full r => some r | .inn r _ _ => some r | _ => none) else none
  | _, _ => none
def argW (h hd : Heap) : (ps : List (Ty × Bool)) → List TV → Option (den (prodT (ps.map (·.1))))
  | [], [] => some ()
  | (t, false) :: ps, x :: xs => (cellsOf t x).bind fun cs => (see1 hd t cs).bind fun y => (argW h hd ps xs).bind fun z => some (y, z)
  | (t, true) :: ps, x :: xs => (wDat h t x).bind fun y => (argW h hd ps xs).bind fun z => some (y, z)
  | _, _ => none
def wPut (h : Heap) : (ps : List (Ty × Bool)) → List TV → den (prodT ((ps.filter (·.2)).map (·.1))) → Option Reg
  | (_, false) :: ps, _ :: xs, y => wPut h ps xs y
  | (t, true) :: _, x :: _, y => wNew h t x y.1
  | _, _, _ => none
/-! A box that is written through. -/
def wBox : List (Ty × Bool) → List TV → Option Nat
  | (_, false) :: ps, _ :: xs => wBox ps xs
  | (.ref _, true) :: ps, x :: _ => bif ps.all (fun p => !p.2) then (match x with | .ptr r 0 0 => some r | _ => none) else none
  | _, _ => none
def argB (h : Heap) : (ps : List (Ty × Bool)) → List TV → Option (den (prodT (ps.map (·.1))))
  | [], [] => some ()
  | (t, false) :: ps, x :: xs => (cellsOf t x).bind fun cs => (see1 [] t cs).bind fun y => (argB h ps xs).bind fun z => some (y, z)
  | (.ref t, true) :: ps, x :: xs => (match x with | .ptr r 0 0 => (match hget h r with | some (.box cs) => dec1 t cs | _ => none) | _ => none).bind fun y => (argB h ps xs).bind fun z => some (y, z)
  | _, _ => none
def boxPut : (ps : List (Ty × Bool)) → den (prodT ((ps.filter (·.2)).map (·.1))) → Option Reg
  | (_, false) :: ps, y => boxPut ps y
  | (.ref t, true) :: _, y => some (.box (encT t y.1))
  | _, _ => none
/-- zeros in the place of elements -/
def clr {α : Type} (d : α) : Nat → Nat → List α → List α
  | _, 0, l => l
  | off, k + 1, l => clr d (off + 1) k (l.set off d)
def clearS (P : Program) (c : Call) (x : TV) (h : Heap) : Option Heap :=
  match (c.argTypes[0]?).bind (tsl P), (c.argTypes[0]?).bind (elOf P) with
  | some (size, _, z), some e => bif Nat.beq (sz e) size && !hasSl e then (dec1 e (z.map .p)).bind fun d =>
      (match x with
      | .full r => (match hget h r with
        | some (.row fr t l) => (cast t e l).map fun l => hset h r (.row fr e (clr d 0 l.length l))
        | _ => none)
      | .sub r off len => (match hget h r with
        | some (.row fr t l) => (cast t e l).map fun l => hset h r (.row fr e (clr d off len l))
        | _ => none)
      | .p (.slice none 0 0) => some h
      | _ => none) else none
  | _, _ => none
def isClear (op : Op) : Option Call :=
  match op with
  | .call c => (match c.callee with | .builtin .clear => some c | _ => none)
  | _ => none
def sput (m : Fm) (dst : Option Tmp) (x : TV) (s : List (Nat × TV)) : Option (List (Nat × TV)) :=
  match dst with
  | some d => bif Nat.blt d m.n && m.st.all (fun q => !Nat.beq q.1 d) then some ((d, x) :: s) else none
  | none => some s

/-- The function that an operand names, and what it bears. -/
def calleeOf (ρ : Operand → TV) (c : Call) : Option (FuncId × List TV) :=
  match c.callee with
  | .value x => match ρ x with
    | .fn (.func f) fi ca => some (f, fi ++ c.args.toList.map ρ ++ ca)
    | _ => none
  | _ => none

def isCall : Op → Bool
  | .call c => match c.callee with | .builtin _ => false | _ => true
  | _ => false

/-- operations that leave the memory as it is -/
def stillB : Op → Bool
  | .move _ | .assign _ | .pick _ _ _ | .build _ _ | .load _ _ | .nilCheck _ | .binOp _ _ _ _ _ | .unOp _ _ _ | .convert _ _ _ | .makeInterface _ _ | .makeFunc _ _ _ | .slice _ _ _ _ _ | .fieldAddr _ _ _ | .indexAddr _ _ _ | .index _ _ _ | .extract _ _ => true
  | .call c => match c.callee with | .builtin .len => true | .builtin .max => true | .builtin .min => true | .builtin .cap => true | _ => false
  | .field _ _ _ => true
  | _ => false
section
variable (P : Program) (m : Fm) (F : List Con) {ρ : Type}

mutual
/-- flat cells: no references -/
def flatV : TV → Bool
  | .p _ => true
  | .tr _ _ => true
  | .iptr _ _ _ _ => true
  | .fn _ fi ca => flatB fi && flatB ca
  | _ => false
def flatB : List TV → Bool
  | [] => true
  | c :: cs => flatV c && flatB cs
end
def flatA (xs : List TV) : Bool := xs.all fun x => flatB (clist x)
def flatBox : Option Reg → Bool
  | some (.box cs) => flatB cs
  | _ => false
/-- what is not written through is flat -/
def flatX : List (Ty × Bool) → List TV → Bool
  | (_, false) :: ps, x :: xs => flatB (clist x) && flatX ps xs
  | (_, true) :: ps, _ :: xs => flatX ps xs
  | _, _ => true
def RM.isMv : RM → Bool
  | .mv => true
  | _ => false
def RM.isOwnF : RM → Bool
  | .own true => true
  | _ => false

/-! Calls that are carried out on the spot. -/
mutual
/-- without inner slices -/
def noI : TV → TV
  | .inn _ _ _ => .undef
  | .agg cs => .agg (noIL cs)
  | .tup cs => .tup (noIL cs)
  | .ifc t x => .ifc t (noI x)
  | .fn f fi ca => .fn f (noIL fi) (noIL ca)
  | x => x
def noIL : List TV → List TV
  | [] => []
  | c :: cs => noI c :: noIL cs
end
def noIS : List (Nat × TV) → List (Nat × TV)
  | [] => []
  | (k, x) :: s => (k, noI x) :: noIS s
def Inl := (ρ : Type) → FuncId → List TV → Heap → Nat → (TV → Heap → Nat → Option ρ) → Option ρ
variable (N : Inl)
/-- One operation. -/
def evOp (o : Oper) (s : List (Nat × TV)) (h : Heap) (n : Nat) (K : St → Option ρ) : Option ρ :=
  match o.op with
  | .call c =>
    bif isCall o.op then
      (calleeOf (ev s) c).bind fun q => match cget F q.1 q.2 with
      | none => N ρ q.1 q.2 h n fun v h n => (sput m o.dst v (noIS s)).bind fun s => K ⟨s, h, n⟩
      | some cn =>
        bif cn.ps.all (!·.2) then
          bif cn.rm.isOwnF || flatA q.2 then
            (argL h cn.ps q.2).bind fun x => (cn.m x).bind fun y =>
              let v := opnR cn.rm cn.rs y.1 h n
              (sput m o.dst v.1 s).bind fun s => K ⟨s, v.2.1, v.2.2⟩
          else none
        else
          match wBox cn.ps q.2 with
          | some r =>
            bif flatBox (hget h r) && flatX cn.ps q.2 && !cn.rm.isMv then
              (argB h cn.ps q.2).bind fun x => (cn.m x).bind fun y => (boxPut cn.ps y.2).bind fun g =>
                let v := opnR cn.rm cn.rs y.1 (hset h r g) n
                (sput m o.dst v.1 s).bind fun s => K ⟨s, v.2.1, v.2.2⟩
            else none
          | none =>
          bif cn.rm.isMv then
            (wReg cn.ps q.2).bind fun r => bif isRow (hget h r) then (argW h (hdel (killH r h) r) cn.ps q.2).bind fun x => (cn.m x).bind fun y =>
              let v := opnL true cn.rs y.1 (hdel (killH r h) r) n
              (sput m o.dst (retT v.1) (killS r s)).bind fun s => K ⟨s, v.2.1, v.2.2⟩ else none
          else bif cn.rm.isOwnF then
            (wReg cn.ps q.2).bind fun r => bif isRow (hget h r) then (argW h (hdel (killH r h) r) cn.ps q.2).bind fun x => (cn.m x).bind fun y => (wPut h cn.ps q.2 y.2).bind fun g =>
              let v := opnR cn.rm cn.rs y.1 (killH r (hset h r g)) n
              (sput m o.dst v.1 (killS r s)).bind fun s => K ⟨s, v.2.1, v.2.2⟩ else none
          else none
    else match isClear o.op with
      | some c => (match c.args.toList with | [x] => some x | _ => none).bind fun x => (clearS P c (ev s x) h).bind fun h => (sput m o.dst (.tup []) s).bind fun s => K ⟨s, h, n⟩
      | none => (ex P o.op (ev s) h n).bind fun a => (sput m o.dst a.v (match a.k with | some r => killS r s | none => s)).bind fun s => bif a.c then K ⟨s, a.h, a.n⟩ else none
  | _ => (ex P o.op (ev s) h n).bind fun a => (sput m o.dst a.v (match a.k with | some r => killS r s | none => s)).bind fun s => bif a.c then K ⟨s, a.h, a.n⟩ else none

def gv (want : Bool) : TV → Option Bool
  | .p (.bool b) => some (bif want then b else !b)
  | _ => none

/-- what a skipped operation leaves -/
def isUn : TV → Bool
  | .tup [] => true
  | _ => false
def evOps (dl : List (Option Tmp)) : List Oper → St → (St → Option ρ) → Option ρ
  | [], σ, K => K σ
  | o :: os, σ, K =>
    match o.guard with
    | none => evOp P m F N o σ.s σ.h σ.n fun σ => evOps dl os σ K
    | some (j, want) =>
      match dl.getD j none with
      | none => none
      | some t =>
        match gv want (sget σ.s t) with
        | none => bif isUn (sget σ.s t) then (sput m o.dst (.tup []) σ.s).bind fun s => evOps dl os ⟨s, σ.h, σ.n⟩ K else none
        | some cw =>
          bif cw then evOp P m F N o ((t, .p (.bool want)) :: σ.s) σ.h σ.n fun σ => evOps dl os σ K
          else (sput m o.dst (.tup []) ((t, .p (.bool !want)) :: σ.s)).bind fun s => evOps dl os ⟨s, σ.h, σ.n⟩ K

/-! Regions that draw their order. -/
def pget : List (Nat × Option Reg) → Nat → Option Reg
  | [], _ => none
  | (k, x) :: s, t => bif Nat.beq t k then x else pget s t
def ptrOf : Reg → Nat → TV
  | .row _ _ _, n => .full n
  | .box _, n => .ptr n 0 0
  | .mp _ _, n => .mp n
/-- a state with things that were made and have no number yet -/
structure DL where
  s : List (Nat × TV)
  pd : List (Nat × Option Reg)
  h : Heap
  n : Nat
def attL : List Nat → DL → DL
  | [], τ => τ
  | t :: ts, τ => match pget τ.pd t with
    | some reg => attL ts ⟨(t, ptrOf reg τ.n) :: τ.s, (t, none) :: τ.pd, (τ.n, reg) :: τ.h, τ.n + 1⟩
    | none => attL ts τ
def tmpsOf (xs : List Operand) : List Nat := xs.filterMap fun x => match x with | .tmp t => some t | _ => none
def opT (op : Op) : List Nat := tmpsOf op.operands.toList
def pB : List TV → Bool
  | [] => true
  | .p _ :: cs => pB cs
  | _ => false
/-- Elements without references. -/
def fillF (e : Ty) (ρ : Operand → TV) : List (den e) → List (Nat × Operand) → Option (List (den e))
  | es, [] => some es
  | es, (i, x) :: rest => bif pB (clist (ρ x)) && Nat.blt i es.length && (clist (ρ x)).all okc then (dec1 e (clist (ρ x))).bind fun y => fillF e ρ (es.set i y) rest else none
/-- What is made of plain cells alone. -/
def alcS (op : Op) (ρ : Operand → TV) : Option (Reg × Bool) :=
  match op with
  | .alloc t => (tz P t).bind fun z => bif z.all Value.oneCell' then some (.box (z.map .p), true) else none
  | .box _ x => bif (clist (ρ x)).all okc && flatB (clist (ρ x)) then some (.box (clist (ρ x)), true) else none
  | .makeSlice t l c => match tsl P t, elOf P t, ρ l, ρ c with
    | some (size, bytes, z), some e, .p (.int _ a), .p (.int _ b) =>
      (dec1 e (z.map .p)).bind fun d => bif Nat.beq (sz e) size then some (.row true e (List.replicate a.toNat d), decide (0 ≤ a) && decide (a ≤ b) && decide ((bytes : Int) * b ≤ 1099511627776)) else none
    | _, _, _, _ => none
  | .buildSlice t len parts => match tsl P t, elOf P t with
    | some (size, _, z), some e => bif Nat.beq (sz e) size && Nat.ble (len * size) 16777216 then
        (dec1 e (z.map .p)).bind fun d => (fillF e ρ (List.replicate len d) parts.toList).map fun es => (.row true e es, true)
      else none
    | _, _ => none
  | _ => none
def refT : TV → List Nat
  | .full r => [r]
  | .sub r _ _ => [r]
  | .inn r _ _ => [r]
  | .ptr r _ _ => [r]
  | .mp r => [r]
  | _ => []
def refC (x : TV) : List Nat := (clist x).flatMap refT
def refP : TV → List Nat
  | .ptr r _ _ => [r]
  | _ => []
/-- regions that an operation reads -/
def rdI (op : Op) (ρ : Operand → TV) : List Nat :=
  match op with
  | .load _ x => refT (ρ x)
  | .slice _ x _ _ _ => refT (ρ x)
  | .indexAddr _ x _ => refT (ρ x)
  | .call c => match c.callee with | .builtin .len => c.args.toList.flatMap fun x => refT (ρ x) | _ => []
  | _ => []
/-- regions that an operation writes or takes -/
def wrI (op : Op) (ρ : Operand → TV) : List Nat :=
  match op with
  | .store _ x y => refT (ρ x) ++ refC (ρ y)
  | .mapUpdate _ x _ _ => refT (ρ x)
  | .lookup _ x _ _ => refT (ρ x)
  | .buildSlice _ _ ps => ps.toList.flatMap fun p => refC (ρ p.2)
  | .call c => match c.callee with
    | .builtin .append => c.args.toList.flatMap fun x => refT (ρ x)
    | .builtin _ => []
    | _ => (match calleeOf ρ c with | some q => q.2.flatMap refP | none => [])
  | _ => []
structure KI where
  hv : Bool
  rd : List Nat
  wr : List Nat
  ta : List Nat
def KI.lt : KI := ⟨false, [], [], []⟩
def evV (o : Oper) (σ : Operand → TV) (h : Heap) (n : Nat) (K : Ans → Option ρ) : Option ρ :=
  match o.op with
  | .call c =>
    bif isCall o.op then
      (calleeOf σ c).bind fun q => (cget F q.1 q.2).bind fun cn =>
        bif cn.ps.all (!·.2) && (cn.rm.isOwnF || flatA q.2) then
          (argL h cn.ps q.2).bind fun x => (cn.m x).bind fun y =>
            let v := opnR cn.rm cn.rs y.1 h n
            K { v := v.1, h := v.2.1, n := v.2.2, c := true }
        else match wBox cn.ps q.2 with
          | some r =>
            bif flatBox (hget h r) && flatX cn.ps q.2 && !cn.rm.isMv && !cn.ps.all (!·.2) then
              (argB h cn.ps q.2).bind fun x => (cn.m x).bind fun y => (boxPut cn.ps y.2).bind fun g =>
                let v := opnR cn.rm cn.rs y.1 (hset h r g) n
                K { v := v.1, h := v.2.1, n := v.2.2, c := true }
            else none
          | none => none
    else (ex P o.op σ h n).bind fun a => bif a.k.isNone && a.c then K a else none
  | _ => (ex P o.op σ h n).bind fun a => bif a.k.isNone && a.c then K a else none
def dstOk (dst : Option Nat) : Bool :=
  match dst with
  | some d => Nat.blt d m.n && m.st.all (fun q => !Nat.beq q.1 d)
  | none => true
def putL (dst : Option Nat) (x : TV) (p : Option Reg) (τ : DL) : DL :=
  match dst with
  | some d => ⟨(d, x) :: τ.s, (d, p) :: τ.pd, τ.h, τ.n⟩
  | none => τ
def hvL (o : Oper) (τ : DL) (K : DL → KI → Option ρ) : Option ρ :=
  let τ1 := attL (opT o.op) τ
  evV P F o (ev τ1.s) τ1.h τ1.n fun A => K (putL o.dst A.v none ⟨τ1.s, τ1.pd, A.h, A.n⟩) ⟨true, [], wrI o.op (ev τ1.s) ++ List.range' τ.n (A.n - τ.n), (opT o.op).filter fun t => (pget τ.pd t).isSome⟩
def evD1 (o : Oper) (τ : DL) (K : DL → KI → Option ρ) : Option ρ :=
  bif dstOk m o.dst then
    bif (opT o.op).any (fun t => (pget τ.pd t).isSome) then hvL P F o τ K
    else match alcS P o.op (ev τ.s) with
      | some (reg, c) => bif o.dst.isSome && c then K (putL o.dst .undef (some reg) τ) KI.lt else none
      | none =>
        bif stillB o.op then (ex P o.op (ev τ.s) τ.h τ.n).bind fun A => bif A.c then K (putL o.dst A.v none τ) ⟨false, rdI o.op (ev τ.s), [], []⟩ else none
        else hvL P F o τ K
  else none
def evD (dl : List (Option Tmp)) : List Oper → DL → List KI → (DL → List KI → Option ρ) → Option ρ
  | [], τ, acc, K => K τ acc
  | o :: os, τ, acc, K =>
    match o.guard with
    | none => evD1 P m F o τ fun τ k => evD dl os τ (k :: acc) K
    | some (j, want) =>
      match dl.getD j none with
      | none => none
      | some t =>
        match gv want (sget τ.s t) with
        | none => bif isUn (sget τ.s t) && dstOk m o.dst then evD dl os (putL o.dst (.tup []) none τ) (KI.lt :: acc) K else none
        | some cw =>
          bif cw then evD1 P m F o ⟨(t, .p (.bool want)) :: τ.s, τ.pd, τ.h, τ.n⟩ fun τ k => evD dl os τ (k :: acc) K
          else bif dstOk m o.dst then evD dl os (putL o.dst (.tup []) none ⟨(t, .p (.bool !want)) :: τ.s, τ.pd, τ.h, τ.n⟩) (KI.lt :: acc) K else none
/-- for each operation, those that it waits for -/
def anc1 (acc : List Nat) (o : Oper) : Nat := o.after.toList.foldl (fun m e => bif Region.binds .any e then m ||| (1 <<< e.on) ||| acc.getD e.on 0 else m) 0
def ancs : List Oper → List Nat → List Nat
  | [], acc => acc
  | o :: os, acc => ancs os (acc ++ [anc1 acc o])
def disjB (a b : List Nat) : Bool := a.all fun x => b.all fun y => !Nat.beq x y
def lkT (dl : List (Option Tmp)) (o : Oper) : List Nat :=
  opT o.op ++ (match o.guard with | some (j, _) => (match dl.getD j none with | some t => [t] | none => []) | none => [])
def outB (d : Option Nat) (l : List Nat) : Bool :=
  match d with
  | some d => l.all fun x => !Nat.beq x d
  | none => true
def neB : Option Nat → Option Nat → Bool
  | some a, some b => !Nat.beq a b
  | _, _ => true
def pairB (dl : List (Option Tmp)) (o1 : Oper) (k1 : KI) (o2 : Oper) (k2 : KI) : Bool :=
  outB o1.dst (lkT dl o2) && outB o2.dst (lkT dl o1) && neB o1.dst o2.dst && !(k1.hv && k2.hv) && disjB k1.rd k2.wr && disjB k2.rd k1.wr && disjB k1.ta (lkT dl o2) && disjB k2.ta (lkT dl o1)
def chkD (dl : List (Option Tmp)) (os : List Oper) (ks : List KI) : Bool :=
  (List.range os.length).all fun i => match os[i]?, ks[i]? with
    | some o, some k => (o.after.toList.all fun e => !Region.binds .any e || Nat.blt e.on i) && (List.range i).all fun x => match os[x]?, ks[x]? with
      | some o1, some k1 => Nat.testBit ((ancs os []).getD i 0) x || pairB dl o1 k1 o k
      | _, _ => false
    | _, _ => false

/-- A loop's mirror: from a state to what comes behind. -/
def LO := (ρ : Type) → St → (Exit → St → Option ρ) → Option ρ
def lget : List (Nat × LO) → Nat → Option LO
  | [], _ => none
  | (k, x) :: l, i => bif Nat.beq i k then some x else lget l i
/-- A loop is known by its first region. -/
def lid : Code → Nat
  | .region i _ _ => i
  | .seq a b => lid a
  | .block _ a => lid a
  | .loop a => lid a
  | _ => 0

def evC (L : List (Nat × LO)) : Code → (Exit → St → Option ρ) → St → Option ρ
  | .skip, K, σ => K .normal σ
  | .exit id, K, σ => K (.exit id) σ
  | .ret, K, σ => K .ret σ
  | .region _ ops draw, K, σ =>
    bif draw then
      bif P.follows .mixedOrders then
        evD P m F (ops.toList.map (·.dst)) ops.toList ⟨σ.s, [], σ.h, σ.n⟩ [] fun τ ks =>
          bif chkD (ops.toList.map (·.dst)) ops.toList ks.reverse then
            let τ1 := attL ((ops.toList.map (·.dst)).filterMap fun x => x) τ
            K .normal ⟨τ1.s, τ1.h, τ1.n⟩
          else none
      else none
    else evOps P m F N (ops.toList.map (·.dst)) ops.toList σ fun σ => K .normal σ
  | .seq a b, K, σ => evC L a (fun e σ => match e with | .normal => evC L b K σ | e => K e σ) σ
  | .block id a, K, σ => evC L a (fun e σ => match e with | .exit j => bif Nat.beq j id then K .normal σ else K (.exit j) σ | e => K e σ) σ
  | .cond c a b, K, σ => match ev σ.s c with
    | .p (.bool x) => bif x then evC L a K σ else evC L b K σ
    | _ => none
  | .loop a, K, σ => match lget L (lid a) with
    | some lo => lo ρ σ K
    | none => none
  | _, _, _ => none
end

/-! Shapes: what is kept at a loop's head. -/
inductive SK where
  /-- a value without regions -/
  | v (t : Ty)
  /-- a value whose slices are regions -/
  | own (fr : Bool) (t : Ty)
  /-- a pointer to a box with such a value -/
  | box (fr : Bool) (t : Ty)
  /-- a pointer to a box with a value without regions -/
  | boxv (t : Ty)
  /-- a map of its own -/
  | mp (k : IntKind)
  /-- an argument that is written through, in a slot that is never written -/
  | arg (i : Nat)
def SK.ty : SK → Ty
  | .v t => t
  | .own _ t => t
  | .box _ t => t
  | .boxv t => t
  | .mp k => .sl (.pr (.int k) .bool)
  | .arg _ => .un
abbrev Shape := List (Nat × SK)
def shT (S : Shape) : Ty := prodT (S.map (·.2.ty))

/-- the slots and the heap that a shape's data stand for -/
def mkS (gs : List TV) : (S : Shape) → den (shT S) → Heap → Nat → List (Nat × TV) × Heap × Nat
  | [], _, h, n => ([], h, n)
  | (t, .v y) :: S, x, h, n => let q := mkS gs S x.2 h n; ((t, valT y x.1) :: q.1, q.2)
  | (t, .own fr y) :: S, x, h, n => let z := opnV fr y x.1 h n; let q := mkS gs S x.2 z.2.1 z.2.2; ((t, z.1) :: q.1, q.2)
  | (t, .box fr y) :: S, x, h, n => let z := opnC fr (encT y x.1) h n; let q := mkS gs S x.2 ((z.2.2, .box z.1) :: z.2.1) (z.2.2 + 1); ((t, .ptr z.2.2 0 0) :: q.1, q.2)
  | (t, .boxv y) :: S, x, h, n => let q := mkS gs S x.2 ((n, .box (encT y x.1)) :: h) (n + 1); ((t, .ptr n 0 0) :: q.1, q.2)
  | (t, .mp k) :: S, x, h, n => let q := mkS gs S x.2 ((n, .mp k x.1) :: h) (n + 1); ((t, .mp n) :: q.1, q.2)
  | (t, .arg i) :: S, x, h, n => let q := mkS gs S x.2 h n; ((t, gs.getD i .undef) :: q.1, q.2)
/-- the state; first the arguments that are written through -/
def mkSt (gs : List TV) (gt : List Ty) (S : Shape) (y : den (prodT gt)) (x : den (shT S)) : St :=
  let z := opnG gt y [] 0
  let q := mkS gs S x z.2.1 z.2.2
  ⟨q.1, q.2.1, q.2.2⟩

def leB (a b : Bool) : Bool := !a || b
/-- nothing borrowed at the top -/
def topB : List TV → Bool
  | [] => true
  | .p _ :: cs => topB cs
  | .full _ :: cs => topB cs
  | .sub _ _ _ :: cs => topB cs
  | _ => false
/-- A shape's data out of a state. -/
def exS (st : List (Nat × Nat)) (s : List (Nat × TV)) : (S : Shape) → Heap → Option (den (shT S))
  | [], _ => some ()
  | (t, .v y) :: S, h => (cellsOf y (sget s t)).bind fun cs => bif flatB cs then (dec1 y cs).bind fun x => (exS st s S h).bind fun z => some (x, z) else none
  | (t, .own fr y) :: S, h => (cellsOf y (sget s t)).bind fun cs => (absL h cs).bind fun q => bif topB cs && leB fr q.2.1 then (dec1 y q.1).bind fun x => (exS st s S q.2.2).bind fun z => some (x, z) else none
  | (t, .box fr y) :: S, h => match sget s t with
    | .ptr r 0 0 => match hget h r with
      | some (.box cs) => (absL (hdel h r) cs).bind fun q => bif topB cs && leB fr q.2.1 then (dec1 y q.1).bind fun x => (exS st s S q.2.2).bind fun z => some (x, z) else none
      | _ => none
    | _ => none
  | (t, .boxv y) :: S, h => match sget s t with
    | .ptr r 0 0 => match hget h r with
      | some (.box cs) => bif flatB cs then (dec1 y cs).bind fun x => (exS st s S (hdel h r)).bind fun z => some (x, z) else none
      | _ => none
    | _ => none
  | (t, .mp k) :: S, h => match sget s t with
    | .mp r => match hget h r with
      | some (.mp k' l) => if k' = k then (exS st s S (hdel h r)).bind fun z => some (l, z) else none
      | _ => none
    | _ => none
  | (t, .arg i) :: S, h => bif st.any (fun q => Nat.beq q.1 t && Nat.beq q.2 i) then (exS st s S h).bind fun z => some ((), z) else none
def exOwn (g : TV) (t : Ty) (h : Heap) : Option (den t × Heap) :=
  (cellsOf t g).bind fun cs => (absL h cs).bind fun q => bif topB cs && q.2.1 then (dec1 t q.1).bind fun x => some (x, q.2.2) else none
def exBox (g : TV) (t : Ty) (h : Heap) : Option (den t × Heap) :=
  match g with
  | .ptr r 0 0 => match hget h r with
    | some (.box cs) => bif flatB cs then (dec1 t cs).bind fun x => some (x, hdel h r) else none
    | _ => none
  | _ => none
def ex1 (g : TV) : (t : Ty) → Heap → Option (den t × Heap)
  | .ref t, h => exBox g t h
  | t, h => exOwn g t h
/-- the arguments' own memory, out of the heap -/
def exG : (gs : List TV) → (gt : List Ty) → Heap → Option (den (prodT gt) × Heap)
  | [], [], h => some ((), h)
  | g :: gs, t :: gt, h => (ex1 g t h).bind fun q => (exG gs gt q.2).bind fun z => some ((q.1, z.1), z.2)
  | _, _, _ => none
mutual
/-- the same references? -/
def eqG : TV → TV → Bool
  | .p _, .p _ => true
  | .full r, .full r' => Nat.beq r r'
  | .ptr r 0 0, .ptr r' 0 0 => Nat.beq r r'
  | .agg xs, .agg ys => eqGL xs ys
  | _, _ => false
def eqGL : List TV → List TV → Bool
  | [], [] => true
  | x :: xs, y :: ys => eqG x y && eqGL xs ys
  | _, _ => false
end
def exX (st : List (Nat × Nat)) (gs : List TV) (gt : List Ty) (S : Shape) (σ : St) : Option (den (prodT gt) × den (shT S)) :=
  (exG gs gt σ.h).bind fun y => bif eqGL gs (opnG gt y.1 [] 0).1 then (exS st σ.s S y.2).bind fun x => some (y.1, x) else none

/-! A function's end. -/
def rets (P : Program) (σ : St) : List ResultVar → Option (List TV)
  | [] => some []
  | .tmp t :: r => (rets P σ r).bind fun q => some (sget σ.s t :: q)
  | .cell t ty :: r => (rets P σ r).bind fun q => (tv P ty).bind fun av => (loadS av (sget σ.s t) σ.h σ.n).bind fun a => bif a.c then some (a.v :: q) else none
/-- The results as data. -/
def clsL (fr : Bool) : (ts : List Ty) → List TV → Heap → Option (den (prodT ts) × Heap)
  | [], [], h => some ((), h)
  | t :: ts, v :: vs, h => (cellsOf t v).bind fun cs => (absL h cs).bind fun q => bif topB cs && leB fr q.2.1 then (dec1 t q.1).bind fun x => (clsL fr ts vs q.2.2).bind fun z => some ((x, z.1), z.2) else none
  | _, _, _ => none
def clsB : (ts : List Ty) → List TV → Option (den (prodT ts))
  | [], [] => some ()
  | t :: ts, v :: vs => (cellsOf t v).bind fun cs => bif flatB cs then (dec1 t cs).bind fun x => (clsB ts vs).bind fun z => some (x, z) else none
  | _, _ => none
def clsR (rm : RM) (ts : List Ty) (vs : List TV) (h : Heap) : Option (den (prodT ts) × Heap) :=
  match rm with
  | .own fr => clsL fr ts vs h
  | .bor => (clsB ts vs).map fun x => (x, h)
  | .mv => clsL true ts vs h
/-- the parameters' slots -/
def parS : (ps : List (Ty × Bool)) → Nat → den (prodT (ps.map (·.1))) → Heap → Nat → List (Nat × TV) × Heap × Nat
  | [], _, _, h, n => ([], h, n)
  | (t, false) :: ps, i, x, h, n => let q := parS ps (i + 1) x.2 h n; ((i, valT t x.1) :: q.1, q.2)
  | (t, true) :: ps, i, x, h, n => let z := opnV (frT t) t x.1 h n; let q := parS ps (i + 1) x.2 z.2.1 z.2.2; ((i, z.1) :: q.1, q.2)
/-- what stands for the arguments that are written through -/
def parG : (ps : List (Ty × Bool)) → den (prodT (ps.map (·.1))) → Heap → Nat → List TV
  | [], _, _, _ => []
  | (t, false) :: ps, x, h, n => parG ps x.2 h n
  | (t, true) :: ps, x, h, n => let z := opnV (frT t) t x.1 h n; z.1 :: parG ps x.2 z.2.1 z.2.2

/-- slots that hold the arguments that are written through -/
def parI : List (Ty × Bool) → Nat → Nat → List (Nat × Nat)
  | [], _, _ => []
  | (_, false) :: ps, i, k => parI ps (i + 1) k
  | (_, true) :: ps, i, k => (i, k) :: parI ps (i + 1) (k + 1)
def mutT (ps : List (Ty × Bool)) : List Ty := (ps.filter (·.2)).map (·.1)

/-- A function's answer. -/
def slotsOf : Nat → List TV → List (Nat × TV)
  | _, [] => []
  | i, x :: xs => (i, x) :: slotsOf (i + 1) xs
/-- Functions without loops, to such a depth. -/
def inlN (P : Program) (F : List Con) : Nat → Inl
  | 0, _, _, _, _, _, _ => none
  | d + 1, _, f, xs, h, n, K =>
    match P.funcs[f]? with
    | some fn => (match fn.body with
      | some code => bif Nat.ble xs.length fn.ntmps && fn.name != "runtime.NumGoroutine" then
          evC P ⟨fn.ntmps, []⟩ F (inlN P F d) [] code (fun e σ => match e with
            | .ret => (rets P σ fn.results.toList).bind fun vs => K (retT vs) σ.h σ.n
            | .normal => (rets P σ fn.results.toList).bind fun vs => K (retT vs) σ.h σ.n
            | _ => none) ⟨slotsOf 0 xs, h, n⟩
        else none
      | none => none)
    | none => none

def evF (P : Program) (F : List Con) (N : Inl) (L : List (Nat × LO)) (fn : Func) (code : Code) (ps : List (Ty × Bool)) (rs : List Ty) (rm : RM) (x : den (prodT (ps.map (·.1)))) :
    Option (den (prodT rs) × den (prodT (mutT ps))) :=
  let σ := parS ps 0 x [] 0
  evC P ⟨fn.ntmps, parI ps 0 0⟩ F N L code (fun e σ' => match e with
    | .ret | .normal => (rets P σ' fn.results.toList).bind fun vs => (clsR rm rs vs σ'.h).bind fun q => (exG (parG ps x [] 0) (mutT ps) q.2).bind fun g => some (q.1, g.1)
    | _ => none) ⟨σ.1, σ.2.1, σ.2.2⟩
/-- .. whose written arguments are moved. -/
def evFm (P : Program) (F : List Con) (N : Inl) (L : List (Nat × LO)) (fn : Func) (code : Code) (ps : List (Ty × Bool)) (rs : List Ty) (x : den (prodT (ps.map (·.1)))) :
    Option (den (prodT rs) × den (prodT (mutT ps))) :=
  let σ := parS ps 0 x [] 0
  evC P ⟨fn.ntmps, []⟩ F N L code (fun e σ' => match e with
    | .ret | .normal => (rets P σ' fn.results.toList).bind fun vs => (clsL true rs vs σ'.h).bind fun q => some (q.1, dflt _)
    | _ => none) ⟨σ.1, σ.2.1, σ.2.2⟩
end Go.Tw
