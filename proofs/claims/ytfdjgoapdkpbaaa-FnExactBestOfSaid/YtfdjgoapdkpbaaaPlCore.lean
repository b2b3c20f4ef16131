/- A plain machine, sound for the given model, and contracts of functions over it, part 0: PlCore. Nothing is assumed. -/
import Derived.Attr
import Derived.Calls
set_option linter.unusedSimpArgs false
set_option linter.unusedVariables false
set_option linter.unusedSectionVars false
/- PlCore -/
/- The plain machine: closed data and half-open values, objects, and what code does with them; no memory, no order, no tape. -/
namespace Go.PL
open Go

/-- Data: what memory holds that nobody writes any more. -/
inductive D where
  | val (v : Value)
  | sl (es : List D)
  | agg (cs : List D)
  | ptr (cs : List D)
  | fn (f : Fn) (first cap : List D)

/-- Values of a frame: data; pointers and slices into objects of the frame. -/
inductive V where
  | d (x : D)
  | ref (o i j : Nat)
  | msl (o off len : Nat)
  | agg (cs : List V)
  | fn (f : Fn) (first cap : List V)
  | tup (cs : List V)
  | any

/-- Objects: a variable's cells; an array with its elements (the slice's tip); one that is gone. The mark: its cells are read as data, and no longer written. -/
inductive Ob where
  | var (cs : List V) (fz : Bool)
  | arr (sz : Nat) (es : List D) (fz : Bool)
  | dead
  /- an array that owns what its elements hold: what is data there lies in blocks that are its own -/
  | tree (sz : Nat) (es : List V)

abbrev D.i (n : Int) : D := .val (.int .i64 n)
abbrev D.b (x : Bool) : D := .val (.bool x)
abbrev D.s (x : ByteArray) : D := .val (.string x)
abbrev D.nil : D := .val (.slice none 0 0)

def D.cells : D → List D
  | .agg cs => cs
  | .val v => [.val v]
  | .sl es => [.sl es]
  | .ptr cs => [.ptr cs]
  | .fn f a b => [.fn f a b]

def D.one : D → Bool
  | .val (.agg _) => false
  | .val (.tuple _) => false
  | .agg _ => false
  | _ => true

def V.cells : V → List V
  | .agg cs => cs
  | .d x => x.cells.map .d
  | x => [x]

def V.one : V → Bool
  | .d x => x.one
  | .ref .. => true
  | .msl .. => true
  | .fn .. => true
  | _ => false

def V.isAgg : V → Bool
  | .agg _ => true
  | .d (.agg _) => true
  | _ => false

def V.isD : V → Option D
  | .d x => some x
  | _ => none

def allD : List V → Option (List D)
  | [] => some []
  | v :: r => match v.isD, allD r with
    | some x, some xs => some (x :: xs)
    | _, _ => none

def mkAgg (cs : List V) : V := match allD cs with
  | some ds => .d (.agg ds)
  | none => .agg cs

def mkFn (f : Fn) (a b : List V) : V := match allD a, allD b with
  | some x, some y => .d (.fn f x y)
  | _, _ => .fn f a b

/-- A constant. -/
def D.const : Value → D
  | .agg vs => .agg (vs.toList.map .val)
  | v => .val v

def Ob.sz : Ob → Nat
  | .var cs _ => cs.length
  | .arr sz _ _ => sz
  | .dead => 0
  | .tree sz _ => sz

def Ob.isTree : Ob → Bool
  | .tree _ _ => true
  | _ => false

/-- An array's element size and length. -/
def Ob.al : Ob → Option (Nat × Nat)
  | .arr sz es _ => some (sz, es.length)
  | .tree sz es => some (sz, es.length)
  | _ => none

def Ob.fz : Ob → Ob
  | .var cs _ => .var cs true
  | .arr sz es _ => .arr sz es true
  | .dead => .dead
  | .tree sz es => match allD es with
    | some ds => .arr sz ds true
    | none => .tree sz es

/-- Data in which nothing of memory lies; it may be a slice of no elements. -/
def D.fl1 : D → Bool
  | .val _ => true
  | .sl [] => true
  | _ => false

def D.fl : D → Bool
  | .agg cs => cs.all D.fl1
  | x => x.fl1

/-- What may be moved into a tree's cell, and out of it. -/
def V.lo : V → Bool
  | .d x => x.fl1
  | _ => true

def V.own1 : V → Bool
  | .d x => x.fl
  | .msl _ _ _ => true
  | _ => false

def V.own2 : V → Bool
  | .agg cs => cs.all V.own1
  | v => v.own1

/-- A result that reads nothing of the caller's. -/
def V.own : V → Bool
  | .tup cs => cs.all V.own2
  | v => v.own2

/-- An object that reads nothing but its own. -/
def Ob.own : Ob → Bool
  | .arr _ es false => es.all fun e => e.cells.all D.fl1
  | .tree _ es => (allD es).isSome
  | .dead => true
  | _ => false

structure St where
  env : List (Nat × V)
  os : List Ob

def look : List (Nat × V) → Nat → V
  | [], _ => .any
  | (k, v) :: r, t => bif Nat.beq k t then v else look r t

def ev (env : List (Nat × V)) : Operand → V
  | .tmp t => look env t
  | .const v => .d (.const v)
  | .func f => .d (.fn (.func f) [] [])
  | .global _ => .any

def St.put (st : St) (dst : Option Tmp) (v : V) : St :=
  match dst with
  | some t => { st with env := (t, v) :: st.env }
  | none => st

/-- A field of one cell, of a struct that is compared. -/
inductive EK where
  | int (k : IntKind) | bool | str
/-- What the walk asks of a type; a struct's fields: place, size, of many cells or not; a struct that is compared. -/
inductive TK where
  | int (k : IntKind) | bool | str | sl (e : Nat) | st (fs : List (Nat × Nat × Bool)) | oth | eqs (l : List EK)

structure TI where
  size : Nat
  bytes : Nat
  zero : List Value
  agg : Bool
  k : TK

def isAggD : TypeDesc → Bool
  | .struct _ | .array _ _ => true
  | _ => false

def fieldTIs (P : Program) : List Field → Option (List (Nat × Nat × Bool))
  | [] => some []
  | f :: r => match P.info? f.type, P.underlying f.type, fieldTIs P r with
    | some i, some u, some l => some ((f.offset, i.size, isAggD u) :: l)
    | _, _, _ => none

def TK.of (P : Program) : TypeDesc → Option TK
  | .int k => some (.int k)
  | .bool => some .bool
  | .string => some .str
  | .slice e => some (.sl e)
  | .struct fs => (fieldTIs P fs.toList).map .st
  | _ => some .oth

def oneC : Value → Bool
  | .agg _ | .tuple _ => false
  | _ => true

def ti0 (P : Program) (t : TypeId) : Option TI :=
  match P.info? t, P.underlying t with
  | some i, some u => match i.zero, TK.of P u with
    | some z, some k => if z.cells.size = i.size ∧ z.cells.toList.all oneC = true ∧ (isAggD u = true ∨ i.size = 1) then some ⟨i.size, i.bytes, z.cells.toList, isAggD u, k⟩ else none
    | _, _ => none
  | _, _ => none

/-- The types that a walk meets. -/
structure Tab where
  l : List (Nat × TI)
  bk : List Nat := []
  gs : List (Nat × List D) := []
  eqs : List (Nat × List EK) := []

/-- What package-level variables hold, where it is told. -/
def gsL : List (Nat × List D) → Nat → Option (List D)
  | [], _ => none
  | (k, cs) :: r, g => bif Nat.beq k g then some cs else gsL r g
def evg (T : Tab) (env : List (Nat × V)) (x : Operand) : V := match x with
  | .global g => match gsL T.gs g with | some cs => .d (.ptr cs) | none => .any
  | x => ev env x

def tiL : List (Nat × TI) → TypeId → Option TI
  | [], _ => none
  | (k, i) :: r, t => bif Nat.beq k t then some i else tiL r t
def ti (T : Tab) (t : TypeId) : Option TI := tiL T.l t

def tk (T : Tab) (t : TypeId) : TK := match ti T t with | some i => i.k | none => .oth

def eqsL : List (Nat × List EK) → Nat → Option (List EK)
  | [], _ => none
  | (k, l) :: r, t => bif Nat.beq k t then some l else eqsL r t
def tkE (T : Tab) (t : TypeId) : TK := match eqsL T.eqs t with | some l => .eqs l | none => tk T t
def EK.desc : EK → TypeDesc
  | .int k => .int k
  | .bool => .bool
  | .str => .string
def okF (P : Program) : Nat → List Field → List EK → Prop
  | _, [], [] => True
  | o, f :: fs, k :: ks => f.name ≠ "_" ∧ f.offset = o ∧ P.underlying f.type = some k.desc ∧ okF P (o + 1) fs ks
  | _, _, _ => False
/-- A struct of cells that are compared one by one. -/
def EqOk (P : Program) (t : TypeId) (l : List EK) : Prop := ∃ fs, P.underlying t = some (.struct fs) ∧ P.stoodInHeld t = false ∧ P.eqGuardType P.depth t = false ∧ okF P 0 fs.toList l
/-- The table is the program's. -/
class TOk (T : Tab) (P : outParam Program) : Prop where
  ok : ∀ t i, ti T t = some i → ti0 P t = some i
  eq : ∀ t l, eqsL T.eqs t = some l → EqOk P t l

/-- A value of a type out of cells. -/
def ofCells (agg : Bool) (cs : List V) (n : Nat) : V :=
  if agg then mkAgg (cs.take n) else (cs.head?).getD .any

def dOfCells (agg : Bool) (cs : List D) (n : Nat) : D :=
  if agg then .agg (cs.take n) else (cs.head?).getD (.i 0)

def gd (es : List D) (i : Nat) : D := (es[i]?).getD (.i 0)
def gv (es : List V) (i : Nat) : V := (es[i]?).getD .any

def setRange {α : Type} (cs : List α) (j : Nat) (xs : List α) : List α := cs.take j ++ xs ++ cs.drop (j + xs.length)

/-- What is read as data of a value, and the objects that it reads. -/
def leaf0 (os : List Ob) : V → Option (D × List Nat)
  | .d x => some (x, [])
  | .msl o off len => match os[o]? with
    | some (.arr _ es _) => some (.sl ((es.drop off).take len), [o])
    | some (.tree _ es) => match allD es with
      | some ds => some (.sl ((ds.drop off).take len), [o])
      | none => none
    | _ => none
  | _ => none

def mapL (f : V → Option (D × List Nat)) : List V → Option (List D × List Nat)
  | [] => some ([], [])
  | v :: r => match f v, mapL f r with
    | some (x, a), some (xs, b) => some (x :: xs, a ++ b)
    | _, _ => none

def leaf1 (os : List Ob) : V → Option (D × List Nat)
  | .ref o i j => match os[o]? with
    | some (.var cs _) => match i, mapL (leaf0 os) cs with
      | 0, some (xs, a) => some (.ptr (xs.drop j), o :: a)
      | _, _ => none
    | _ => none
  | .agg cs => match mapL (leaf0 os) cs with
    | some (xs, a) => some (.agg xs, a)
    | none => none
  | v => leaf0 os v

def leaf (os : List Ob) : V → Option (D × List Nat)
  | .fn f a b => match mapL (leaf1 os) a, mapL (leaf1 os) b with
    | some (x, l), some (y, m) => some (.fn f x y, l ++ m)
    | _, _ => none
  | v => leaf1 os v

def freeze (os : List Ob) : List Nat → List Ob
  | [] => os
  | o :: r => (freeze os r).modify o Ob.fz

/-- Nothing of memory in it. -/
def D.scal : D → Bool
  | .val _ => true
  | _ => false

def V.scal : V → Bool
  | .d x => x.scal
  | .tup cs => cs.all fun | .d x => x.scal | _ => false
  | _ => false

/-- References of a result, counted from another number on. -/
def V.shift1 (n : Nat) : V → V
  | .ref o i j => .ref (n + o) i j
  | .msl o a b => .msl (n + o) a b
  | .d x => .d x
  | _ => .any

def V.shift2 (n : Nat) : V → V
  | .agg cs => .agg (cs.map (V.shift1 n))
  | .fn f a b => .fn f (a.map (V.shift1 n)) (b.map (V.shift1 n))
  | v => v.shift1 n

def V.shift (n : Nat) : V → V
  | .tup cs => .tup (cs.map (V.shift2 n))
  | v => v.shift2 n

/-- Slices of an array that has moved. -/
def kill1 (o : Nat) : V → V
  | .msl o' a b => bif Nat.beq o' o then .any else .msl o' a b
  | .ref o' i j => bif Nat.beq o' o then .any else .ref o' i j
  | .d x => .d x
  | _ => .any

def kill (o : Nat) : V → V
  | .agg cs => .agg (cs.map (kill1 o))
  | .fn f a b => .fn f (a.map (kill1 o)) (b.map (kill1 o))
  | v => kill1 o v

def Ob.kill (o : Nat) : Ob → Ob
  | .var cs fz => .var (cs.map (PL.kill o)) fz
  | .tree sz es => .tree sz (es.map (PL.kill o))
  | x => x

def St.kill (st : St) (o : Nat) : St := ⟨st.env.map fun x => (x.1, PL.kill o x.2), st.os.map (Ob.kill o)⟩

def nilV : V → Bool
  | .d (.val (.slice none 0 0)) => true
  | _ => false

/-- The elements that a slice value has. -/
def elems (os : List Ob) : V → Option (List D)
  | .d (.sl es) => some es
  | .d (.val (.slice none 0 0)) => some []
  | .msl o off len => match os[o]? with
    | some (.arr _ es _) => some ((es.drop off).take len)
    | _ => none
  | _ => none

def vlen : V → Option Nat
  | .d (.val (.string s)) => some s.size
  | .d (.sl es) => some es.length
  | .d (.val (.slice none 0 0)) => some 0
  | .msl _ _ len => some len
  | _ => none

def vint : V → Option Int
  | .d (.val (.int _ n)) => some n
  | _ => none

/-- Integers, bools and strings under an operator. -/
def arith (op : BinOp) (k : IntKind) (a b : Int) : Option Value :=
  match op with
  | .add => some (.int k (k.wrap (a + b)))
  | .sub => some (.int k (k.wrap (a - b)))
  | .mul => some (.int k (k.wrap (a * b)))
  | .eql => some (.bool (a == b))
  | .neq => some (.bool (a != b))
  | .lss => some (.bool (a < b))
  | .leq => some (.bool (a ≤ b))
  | .gtr => some (.bool (a > b))
  | .geq => some (.bool (a ≥ b))
  | _ => none

def strOp (op : BinOp) (a b : ByteArray) : Option Value :=
  match op with
  | .eql => some (.bool (a.toList == b.toList))
  | .neq => some (.bool !(a.toList == b.toList))
  | .lss => some (.bool (Op.bytesLess a.toList b.toList))
  | .leq => some (.bool (Op.bytesLess a.toList b.toList || a.toList == b.toList))
  | .gtr => some (.bool !(Op.bytesLess a.toList b.toList || a.toList == b.toList))
  | .geq => some (.bool !(Op.bytesLess a.toList b.toList))
  | _ => none

/-- The values of scalar cells, for a test of structs. -/
def D.v : D → Option Value
  | .val v => some v
  | _ => none

def scalEq : Value → Value → Option Bool
  | .int _ a, .int _ b => some (a == b)
  | .bool a, .bool b => some (a == b)
  | .string a, .string b => some (a == b)
  | _, _ => none

def cellsEq : List D → List D → Option Bool
  | [], [] => some true
  | .val a :: r, .val b :: s => match scalEq a b, cellsEq r s with
    | some x, some y => some (x && y)
    | _, _ => none
  | _, _ => none

def TK.isSl : TK → Bool
  | .sl _ => true
  | _ => false

def TK.isBool : TK → Bool
  | .bool => true
  | _ => false

def intK (op : BinOp) (k : IntKind) (a : Int) (k' : IntKind) (b : Int) (K : V → Prop) : Prop :=
  k = k' ∧ (match op with
  | .quo => b ≠ 0 ∧ K (.d (.val (.int k (k.wrap (a.tdiv b)))))
  | .rem => b ≠ 0 ∧ K (.d (.val (.int k (a.tmod b))))
  | op => match arith op k a b with | some v => K (.d (.val v)) | none => False)

def strK (op : BinOp) (a b : ByteArray) (K : V → Prop) : Prop :=
  match op with
  | .add => a.size + b.size ≤ 9223372036854775807 ∧ K (.d (.val (.string (a ++ b))))
  | op => match strOp op a b with | some v => K (.d (.val v)) | none => False

def eqneK (op : BinOp) (t : Bool) (K : V → Prop) : Prop :=
  match op with
  | .eql => K (.d (.val (.bool t)))
  | .neq => K (.d (.val (.bool !t)))
  | _ => False

def eqL : List EK → List D → List D → Option Bool
  | [], [], [] => some true
  | .int _ :: l, .val (.int q a) :: as, .val (.int q' b) :: bs => if q = q' then (eqL l as bs).map fun r => (a == b) && r else none
  | .bool :: l, .val (.bool a) :: as, .val (.bool b) :: bs => (eqL l as bs).map fun r => (a == b) && r
  | .str :: l, .val (.string a) :: as, .val (.string b) :: bs => (eqL l as bs).map fun r => (a.toList == b.toList) && r
  | _, _, _ => none
def eqsK (k : TK) (as bs : List D) : Option Bool := match k with
  | .eqs l => eqL l as bs
  | _ => none
def optK (x : Option Bool) (K : Bool → Prop) : Prop := match x with
  | some b => K b
  | none => False
def binK (k : TK) (op : BinOp) (x y : V) (K : V → Prop) : Prop :=
  match x with
  | .d (.agg as) => match y with
    | .d (.agg bs) => optK (eqsK k as bs) fun b => eqneK op b K
    | _ => False
  | .d (.val (.int k a)) => match y with
    | .d (.val (.int k' b)) => intK op k a k' b K
    | _ => False
  | .d (.val (.string a)) => match y with
    | .d (.val (.string b)) => strK op a b K
    | _ => False
  | .d (.val (.bool a)) => match y with
    | .d (.val (.bool b)) => k.isBool = true ∧ eqneK op (a == b) K
    | _ => False
  | .d (.val (.slice none 0 0)) => nilV y = true ∧ k.isSl = true ∧ eqneK op true K
  | .d (.sl es) => nilV y = true ∧ k.isSl = true ∧ 0 < es.length ∧ eqneK op false K
  | .msl _ _ len => nilV y = true ∧ k.isSl = true ∧ 0 < len ∧ eqneK op false K
  | _ => False

/-- The number of bytes that a slice may grow to. -/
def most : Nat := 140737488355328

/-- A bound's value. -/
def bnd (d : Int) : Option V → Option Int
  | none => some d
  | some v => vint v

def boundsK (n : Nat) (lo hi : Option V) (F : Nat → Nat → Prop) : Prop :=
  match bnd 0 lo, bnd n hi with
  | some l, some h => 0 ≤ l ∧ l ≤ h ∧ h ≤ n ∧ F l.toNat h.toNat
  | _, _ => False

def sizeIs (os : List Ob) (o n : Nat) : Prop :=
  match os[o]? with
  | some (.arr sz _ _) => sz = n
  | some (.tree sz _) => sz = n
  | _ => False

def sliceK (n : Nat) (os : List Ob) (x : V) (lo hi : Option V) (K : V → Prop) : Prop :=
  match x with
  | .d (.sl es) => boundsK es.length lo hi fun l h => (l = h ∨ (gd es l).cells.length = n) ∧ K (.d (.sl ((es.drop l).take (h - l))))
  | .d (.val (.slice none 0 0)) => boundsK 0 lo hi fun _ _ => K (.d .nil)
  | .msl o off len => boundsK len lo hi fun l h => sizeIs os o n ∧ K (.msl o (off + l) (h - l))
  | _ => False

def sliceStrK (x : V) (lo hi : Option V) (K : V → Prop) : Prop :=
  match x with
  | .d (.val (.string s)) => boundsK s.size lo hi fun l h => K (.d (.val (.string (s.extract l h))))
  | _ => False

def appendK (nF : Nat) (ti : TI) (st : St) (s : V) (news : List D) (K : V → St → Prop) : Prop :=
  (∀ e ∈ news, e.cells.length = ti.size ∧ ∀ c ∈ e.cells, c.one = true) ∧ 0 < ti.size ∧
  match s with
  | .msl o 0 len => match st.os[o]? with
    | some (.arr sz es fz) => nF ≤ o ∧ sz = ti.size ∧ len = es.length ∧ (len + news.length) * ti.bytes ≤ most ∧ len + news.length ≤ lim ∧
        K (.msl o 0 (len + news.length)) { st.kill o with os := (st.kill o).os.set o (.arr sz (es ++ news) fz) }
    | _ => False
  | .d (.val (.slice none 0 0)) => (news = [] → K (.d .nil) st) ∧
      (news ≠ [] → news.length * ti.bytes ≤ most ∧ news.length ≤ lim ∧ K (.msl st.os.length 0 news.length) { st with os := st.os ++ [.arr ti.size news false] })
  | _ => False
where
  lim : Nat := 9223372036854775807

/-- Parts laid over cells. -/
def fillCells (at_ : Nat → Option (Nat × Nat)) (cs : List V) : List (Nat × V) → Option (List V)
  | [] => some cs
  | (i, v) :: r => match at_ i with
    | none => none
    | some (off, n) => if v.cells.length = n ∧ off + n ≤ cs.length ∧ v.cells.all V.one then fillCells at_ (setRange cs off v.cells) r else none

def fieldAt (fs : List (Nat × Nat × Bool)) (i : Nat) : Option (Nat × Nat) := (fs[i]?).map fun x => (x.1, x.2.1)

/-- Elements out of cells. -/
def chunk (agg : Bool) (n : Nat) : Nat → List D → List D
  | 0, _ => []
  | k + 1, cs => (if agg then .agg (cs.take n) else (cs.head?).getD (.i 0)) :: chunk agg n k (cs.drop n)

def zeroD (i : TI) : D := if i.agg then .agg (i.zero.map .val) else (i.zero.map .val).head?.getD (.i 0)

def loadK (i : TI) (st : St) (a : V) (K : V → Prop) : Prop :=
  match a with
  | .ref o e j => match st.os[o]? with
    | some (.var cs _) => e = 0 ∧ j + (bif i.agg then i.size else 1) ≤ cs.length ∧ K (ofCells i.agg (cs.drop j) i.size)
    | some (.arr _ es _) => e < es.length ∧ j + (bif i.agg then i.size else 1) ≤ (gd es e).cells.length ∧ K (.d (dOfCells i.agg ((gd es e).cells.drop j) i.size))
    | some (.tree _ es) => e < es.length ∧ j + (bif i.agg then i.size else 1) ≤ (gv es e).cells.length ∧ (((gv es e).cells.drop j).take (bif i.agg then i.size else 1)).all V.lo = true ∧ K (ofCells i.agg ((gv es e).cells.drop j) i.size)
    | _ => False
  | .d (.ptr cs) => (bif i.agg then i.size else 1) ≤ cs.length ∧ K (.d (dOfCells i.agg cs i.size))
  | _ => False

def setElem (e : D) (j : Nat) (xs : List D) : D :=
  match e with
  | .agg cs => .agg (setRange cs j xs)
  | _ => (xs.head?).getD (.i 0)

def setV (e : V) (j : Nat) (xs : List V) : V := bif e.isAgg then .agg (setRange e.cells j xs) else (xs.head?).getD .any

def storeK (i : TI) (st : St) (a x : V) (K : St → Prop) : Prop :=
  x.cells.length = i.size ∧ x.cells.all V.one = true ∧
  match a with
  | .ref o e j => match st.os[o]? with
    | some (.var cs false) => e = 0 ∧ j + i.size ≤ cs.length ∧ K { st with os := st.os.set o (.var (setRange cs j x.cells) false) }
    | some (.arr sz es false) => match mapL (leaf1 st.os) x.cells with
      | some (ds, l) => e < es.length ∧ j + i.size ≤ (gd es e).cells.length ∧ (l.contains o = false) ∧ 0 < i.size ∧
          K { st with os := (freeze st.os l).set o (.arr sz (es.set e (setElem (gd es e) j ds)) false) }
      | none => False
    | some (.tree sz es) => x.cells.all V.lo = true ∧ e < es.length ∧ j + i.size ≤ (gv es e).cells.length ∧ 0 < i.size ∧
        K { st with os := st.os.set o (.tree sz (es.set e (setV (gv es e) j x.cells))) }
    | _ => False
  | _ => False

def indexK (n : Nat) (os : List Ob) (x : V) (ix : Int) (K : V → Prop) : Prop :=
  match x with
  | .msl o off len => 0 ≤ ix ∧ ix < len ∧ sizeIs os o n ∧ K (.ref o (off + ix.toNat) 0)
  | .d (.sl es) => 0 ≤ ix ∧ ix < es.length ∧ (gd es ix.toNat).cells.length = n ∧ K (.d (.ptr (gd es ix.toNat).cells))
  | _ => False

/-- Bytes as a string. -/
def strB (ns : List Int) : ByteArray := ⟨(ns.map fun n => UInt8.ofNat n.toNat).toArray⟩
def numsL : List D → Option (List Int)
  | [] => some []
  | .val (.int .u8 n) :: r => (numsL r).map (n :: ·)
  | _ :: _ => none
def bytesK (e : TK) (es : Option (List D)) (K : V → Prop) : Prop := match e, es with
  | .int .u8, some l => match numsL l with
    | some ns => K (.d (.val (.string (strB ns))))
    | none => False
  | _, _ => False

/-- One operation that is no call of a function. -/
def opK (T : Tab) (nF : Nat) (st : St) (op : Op) (K : V → St → Prop) : Prop :=
  match op with
  | .move x | .assign x => K (ev st.env x) st
  | .pick c a b => match ev st.env c with
    | .d (.val (.bool t)) => K (bif t then ev st.env a else ev st.env b) st
    | _ => False
  | .alloc t => match ti T t with
    | some i => K (.ref st.os.length 0 0) { st with os := st.os ++ [.var (i.zero.map fun v => .d (.val v)) false] }
    | none => False
  | .box _ x => (ev st.env x).cells.all V.one = true ∧ K (.ref st.os.length 0 0) { st with os := st.os ++ [.var (ev st.env x).cells false] }
  | .build t parts => match ti T t with
    | some i => match i.k with
      | .st fs => match fillCells (fieldAt fs) (i.zero.map fun v => .d (.val v)) (parts.toList.map fun x => (x.1, ev st.env x.2)) with
        | some cs => K (mkAgg cs) st
        | none => False
      | _ => False
    | none => False
  | .buildSlice t len parts => match tk T t with
    | .sl e => match ti T e with
      | some i => match fillCells (fun j => some (j * i.size, i.size)) (List.replicate len (i.zero.map fun v => V.d (.val v))).flatten (parts.toList.map fun x => (x.1, ev st.env x.2)) with
        | some cs => match mapL (leaf1 st.os) cs with
          | some (ds, l) => len * i.size ≤ 16777216 ∧ 0 < i.size ∧
              K (.msl st.os.length 0 len) { st with os := freeze st.os l ++ [.arr i.size (chunk i.agg i.size len ds) false] }
          | none => False
        | none => False
      | none => False
    | _ => False
  | .load t a => match ti T t with
    | some i => loadK i st (evg T st.env a) fun v => K v st
    | none => False
  | .store t a x => match ti T t with
    | some i => storeK i st (ev st.env a) (ev st.env x) fun st' => K .any st'
    | none => False
  | .nilCheck x => match ev st.env x with
    | .ref o i j => K (.ref o i j) st
    | .d (.ptr cs) => K (.d (.ptr cs)) st
    | .fn (.func f) a b => K (.fn (.func f) a b) st
    | .d (.fn (.func f) a b) => K (.d (.fn (.func f) a b)) st
    | _ => False
  | .binOp op t x y _ => binK (tkE T t) op (ev st.env x) (ev st.env y) fun v => K v st
  | .unOp .not _ x => match ev st.env x with
    | .d (.val (.bool b)) => K (.d (.val (.bool !b))) st
    | _ => False
  | .unOp .neg _ x => match ev st.env x with
    | .d (.val (.int k n)) => K (.d (.val (.int k (k.wrap (0 - n))))) st
    | _ => False
  | .convert s t x => match tk T s, tk T t, ev st.env x with
    | .int _, .int k, .d (.val (.int _ n)) => K (.d (.val (.int k (k.wrap n)))) st
    | .str, .str, .d (.val (.string a)) => K (.d (.val (.string a))) st
    | .sl e, .str, x => bytesK (tk T e) (elems st.os x) fun v => K v st
    | _, _, _ => False
  | .makeFunc f a b => K (mkFn f (a.toList.map (ev st.env)) (b.toList.map (ev st.env))) st
  | .makeSlice t l c => match tk T t with
    | .sl e => match ti T e, ev st.env l, ev st.env c with
      | some i, .d (.val (.int _ n)), .d (.val (.int _ m)) => 0 ≤ n ∧ n ≤ m ∧ (i.bytes : Int) * m ≤ most ∧ m ≤ 9223372036854775807 ∧ 0 < i.size ∧
          K (.msl st.os.length 0 n.toNat) { st with os := st.os ++ [.arr i.size (List.replicate n.toNat (zeroD i)) false] }
      | _, _, _ => False
    | _ => False
  | .slice t x lo hi none => match tk T t with
    | .str => sliceStrK (ev st.env x) (lo.map (ev st.env)) (hi.map (ev st.env)) fun v => K v st
    | .sl e => match ti T e with
      | some i => sliceK i.size st.os (ev st.env x) (lo.map (ev st.env)) (hi.map (ev st.env)) fun v => K v st
      | none => False
    | _ => False
  | .fieldAddr s x f => match tk T s with
    | .st fs => match fs[f]?, ev st.env x with
      | some (off, n, _), .ref o i j => 0 < n ∧ K (.ref o i (j + off)) st
      | some (off, n, _), .d (.ptr cs) => 0 < n ∧ K (.d (.ptr (cs.drop off))) st
      | _, _ => False
    | _ => False
  | .field s x f => match tk T s with
    | .st fs => match fs[f]? with
      | some (off, n, g) => off + n ≤ (ev st.env x).cells.length ∧ (g = true ∨ n = 1) ∧ (ev st.env x).isAgg = true ∧ K (ofCells g ((ev st.env x).cells.drop off) n) st
      | none => False
    | _ => False
  | .indexAddr t x ix => match tk T t, vint (ev st.env ix) with
    | .sl e, some n => match ti T e with
      | some i => indexK i.size st.os (ev st.env x) n fun v => K v st
      | none => False
    | _, _ => False
  | .index t x ix => match tk T t, ev st.env x, vint (ev st.env ix) with
    | .str, .d (.val (.string s)), some n => 0 ≤ n ∧ n < s.size ∧ K (.d (.val (.int .u8 (s.data.toList.getD n.toNat 0).toNat))) st
    | _, _, _ => False
  | .extract x i => match ev st.env x with
    | .tup vs => i < vs.length ∧ K ((vs[i]?).getD .any) st
    | _ => False
  | .call { callee := .builtin .len, args, argTypes } => match argTypes.toList, args.toList with
    | [t], [x] => match tk T t, ev st.env x with
      | .str, .d (.val (.string s)) => K (.d (.val (.int .i64 s.size))) st
      | .sl _, .d (.sl es) => K (.d (.val (.int .i64 es.length))) st
      | .sl _, .d (.val (.slice none 0 0)) => K (.d (.val (.int .i64 0))) st
      | .sl _, .msl _ _ len => K (.d (.val (.int .i64 len))) st
      | _, _ => False
    | _, _ => False
  | .call { callee := .builtin .append, args, argTypes } => match argTypes.toList, args.toList with
    | [t, t'], [s, x] => match tk T t, elems st.os (ev st.env x) with
      | .sl e, some news => match ti T e with
        | some i => t' = t ∧ appendK nF i st (ev st.env s) news K
        | none => False
      | _, _ => False
    | _, _ => False
  | .call { callee := .builtin .max, args, .. } => match args.toList with
    | [x, y] => match ev st.env x, ev st.env y with
      | .d (.val (.int k a)), .d (.val (.int _ b)) => K (.d (.val (.int k (if a < b then b else a)))) st
      | _, _ => False
    | _ => False
  | .call { callee := .builtin .min, args, .. } => match args.toList with
    | [x, y] => match ev st.env x, ev st.env y with
      | .d (.val (.int k a)), .d (.val (.int _ b)) => K (.d (.val (.int k (if b < a then b else a)))) st
      | _, _ => False
    | _ => False
  | _ => False

/-- Elements out of cells that may hold references. -/
def vchunk (agg : Bool) (n : Nat) : Nat → List V → List V
  | 0, _ => []
  | k + 1, cs => (if agg then .agg (cs.take n) else (cs.head?).getD .any) :: vchunk agg n k (cs.drop n)

/-- The elements of a slice of a tree. -/
def telems (os : List Ob) : V → Option (List V)
  | .msl o off len => match os[o]? with
    | some (.tree _ es) => some ((es.drop off).take len)
    | _ => none
  | _ => none

def appendTK (nF : Nat) (ti : TI) (st : St) (s : V) (news : List V) (K : V → St → Prop) : Prop :=
  (∀ e ∈ news, e.cells.length = ti.size ∧ e.cells.all V.lo = true) ∧ 0 < ti.size ∧ news ≠ [] ∧
  match s with
  | .msl o 0 len => match st.os[o]? with
    | some (.tree sz es) => nF ≤ o ∧ sz = ti.size ∧ len = es.length ∧ (len + news.length) * ti.bytes ≤ most ∧ len + news.length ≤ 9223372036854775807 ∧
        K (.msl o 0 (len + news.length)) { st.kill o with os := (st.kill o).os.set o (.tree sz ((es ++ news).map (PL.kill o))) }
    | _ => False
  | _ => False

/-- A slice's literal and an append whose elements hold slices of their own: the array is a tree. -/
def treeK (T : Tab) (nF : Nat) (st : St) (op : Op) (K : V → St → Prop) : Prop :=
  match op with
  | .buildSlice t len parts => match tk T t with
    | .sl e => match ti T e with
      | some i => match fillCells (fun j => some (j * i.size, i.size)) (List.replicate len (i.zero.map fun v => V.d (.val v))).flatten (parts.toList.map fun x => (x.1, ev st.env x.2)) with
        | some cs => cs.all V.lo = true ∧ len * i.size ≤ 16777216 ∧ 0 < i.size ∧
            K (.msl st.os.length 0 len) { st with os := st.os ++ [.tree i.size (vchunk i.agg i.size len cs)] }
        | none => False
      | none => False
    | _ => False
  | .call { callee := .builtin .append, args, argTypes } => match argTypes.toList, args.toList with
    | [t, t'], [s, x] => match tk T t, telems st.os (ev st.env x) with
      | .sl e, some news => match ti T e with
        | some i => t' = t ∧ appendTK nF i st (ev st.env s) news K
        | none => False
      | _, _ => False
    | _, _ => False
  | _ => False

/-- What calls come to: the function, its arguments, the objects that it is handed; its result, the objects behind it. -/
abbrev Call := FuncId → List V → List Ob → V → List Ob → Prop

def Ob.plain : Ob → Bool
  | .var _ _ => false
  | .tree _ es => (allD es).isSome
  | _ => true

def callK (C : Call) (st : St) (n : FuncId) (vs : List V) (K : V → St → Prop) : Prop :=
  (∃ ds l r N, mapL (leaf st.os) vs = some (ds, l) ∧ C n (ds.map .d) [] r N ∧ N.all Ob.plain = true ∧
    K (r.shift st.os.length) { st with os := if r.scal = true ∧ N = [] then st.os else freeze st.os l ++ N }) ∨
  (∃ r os', C n vs st.os r os' ∧ K r { st with os := os' }) ∨
  (∃ ds l r N, mapL (leaf st.os) vs = some (ds, l) ∧ C n (ds.map .d) [] r N ∧ r.own = true ∧ N.all Ob.own = true ∧ K (r.shift st.os.length) { st with os := st.os ++ N })

def quietCall (C : Call) (st : St) (n : FuncId) (vs : List V) (K : V → Prop) : Prop :=
  ∃ ds l r, mapL (leaf st.os) vs = some (ds, l) ∧ C n (ds.map .d) [] r [] ∧ (r.scal = true ∨ l = []) ∧ K (r.shift st.os.length)

def calleeK (st : St) (f : Operand) (args : List Operand) (K : FuncId → List V → Prop) : Prop :=
  match ev st.env f with
  | .d (.fn (.func n) a b) => K n (a.map .d ++ args.map (ev st.env) ++ b.map .d)
  | .fn (.func n) a b => K n (a ++ args.map (ev st.env) ++ b)
  | _ => False

def undefV : V := .d (.val (.tuple #[]))

/-- A slice held against nil: where it has no elements both answers are taken. -/
def slLen (x : V) : Option Nat := match x with
  | .d (.sl es) => some es.length
  | .msl _ _ len => some len
  | _ => none
def nilT (k : TK) (op : BinOp) (x y : V) (K : V → Prop) : Prop := ∃ n, slLen x = some n ∧ nilV y = true ∧ k.isSl = true ∧ ∀ b : Bool, (0 < n → b = false) → eqneK op b K

def op1K (T : Tab) (C : Call) (nF : Nat) (o : Oper) (st : St) (K : St → Prop) : Prop :=
  match o.op with
  | .call { callee := .value f, args, .. } => calleeK st f args.toList fun n vs => callK C st n vs fun v s => K (s.put o.dst v)
  | .binOp op t x y _ => binK (tkE T t) op (ev st.env x) (ev st.env y) (fun v => K (st.put o.dst v)) ∨ nilT (tk T t) op (ev st.env x) (ev st.env y) (fun v => K (st.put o.dst v))
  | .buildSlice t len parts => opK T nF st (.buildSlice t len parts) (fun v s => K (s.put o.dst v)) ∨ treeK T nF st (.buildSlice t len parts) (fun v s => K (s.put o.dst v))
  | .call { callee := .builtin .append, args, argTypes } => opK T nF st (.call { callee := .builtin .append, args, argTypes }) (fun v s => K (s.put o.dst v)) ∨ treeK T nF st (.call { callee := .builtin .append, args, argTypes }) (fun v s => K (s.put o.dst v))
  | op => opK T nF st op fun v s => K (s.put o.dst v)

def quietOp : Op → Bool
  | .move _ | .assign _ | .pick .. | .load .. | .nilCheck _ | .binOp .. | .unOp .. | .convert .. | .makeFunc .. | .slice .. | .fieldAddr .. | .field .. | .indexAddr .. | .index .. | .extract .. | .build .. => true
  | .call { callee := .builtin .len, .. } | .call { callee := .builtin .max, .. } | .call { callee := .builtin .min, .. } => true
  | _ => false

def quiet1K (T : Tab) (C : Call) (nF : Nat) (o : Oper) (st : St) (K : St → Prop) : Prop :=
  match o.op with
  | .call { callee := .value f, args, .. } => calleeK st f args.toList fun n vs => quietCall C st n vs fun v => K (st.put o.dst v)
  | op => quietOp op = true ∧ opK T nF st op fun v _ => K (st.put o.dst v)

def guardK (all : Array Oper) (o : Oper) (st : St) (run skip : Prop) : Prop :=
  match o.guard with
  | none => run
  | some (j, want) => match (all[j]?).bind (·.dst) with
    | some t => match look st.env t with
      | .d (.val (.bool b)) => (b = want → run) ∧ (b = !want → skip)
      | .d (.val (.tuple _)) => skip
      | _ => False
    | none => False

def opsK (T : Tab) (C : Call) (nF : Nat) (all : Array Oper) : List Oper → St → (St → Prop) → Prop
  | [], st, K => K st
  | o :: r, st, K => guardK all o st (op1K T C nF o st fun s => opsK T C nF all r s K) (opsK T C nF all r (st.put o.dst undefV) K)

def quietK (T : Tab) (C : Call) (nF : Nat) (all : Array Oper) : List Oper → St → (St → Prop) → Prop
  | [], st, K => K st
  | o :: r, st, K => guardK all o st (quiet1K T C nF o st fun s => quietK T C nF all r s K) (quietK T C nF all r (st.put o.dst undefV) K)

/-- The operations that an operation waits for, by its edges, to the end. -/
def waits (all : Array Oper) : Nat → Nat → List Nat
  | 0, _ => []
  | k + 1, j => ((all[j]?).map fun o => o.after.toList.flatMap fun e => if Region.binds .any e then e.on :: waits all k e.on else []).getD []

def readTmps (all : Array Oper) (o : Oper) : List Tmp :=
  (o.op.operands.toList.filterMap fun | .tmp t => some t | _ => none) ++
  (match o.guard with | some (j, _) => ((all[j]?).bind (·.dst)).toList | none => [])

def operTmps (all : Array Oper) (o : Oper) : List Tmp := o.dst.toList ++ readTmps all o

/-- The first m operations are apart where they do not wait for each other; the others come behind them, in their order. -/
def drawOk (all : Array Oper) (m : Nat) : Bool :=
  decide (m ≤ all.size) &&
  (List.range all.size).all fun j => let ws := waits all all.size j
    (ws.all fun i => decide (i < j)) &&
    (List.range j).all fun i => ws.contains i || (decide (j < m) &&
      (match all[i]?, all[j]? with
        | some a, some b => a.dst.toList.all (fun t => !(operTmps all b).contains t) && b.dst.toList.all (fun t => !(operTmps all a).contains t)
        | _, _ => false))

/-- The order of what is not quiet, as a tree; after each step what may still come up late. -/
inductive OT where
  | done
  | op (i : Nat) (late : List Nat) (t : OT)
  | both (a b : OT)

def OT.heads : OT → List Nat
  | .done => []
  | .op i _ _ => [i]
  | .both a b => a.heads ++ b.heads

/-- All that may come up next is in the tree. -/
def headsOk (all : Array Oper) (ns N : List Nat) (t : OT) : Bool :=
  ns.all fun i => N.contains i || (waits all all.size i).any (fun w => ns.contains w && !N.contains w) || t.heads.contains i

def treeSub (all : Array Oper) (ns : List Nat) : List Nat → OT → Bool
  | _, .done => true
  | N, .op i late t => ns.contains i && !N.contains i && ((List.range all.size).all fun k => ns.contains k || late.contains k || (i :: N).any fun n => (waits all all.size n).contains k) &&
      headsOk all ns (i :: N) t && treeSub all ns (i :: N) t
  | N, .both a b => treeSub all ns N a && treeSub all ns N b

/-- Quiet ones wait for quiet ones; who reads what a quiet one writes waits for it; its place is its own. -/
def drawSOk (all : Array Oper) (ns : List Nat) (t : OT) : Bool :=
  ((List.range all.size).all fun j => let ws := waits all all.size j
    (ws.all fun i => decide (i < j)) && (ns.contains j || ws.all fun i => !ns.contains i) &&
    (List.range all.size).all fun i => ns.contains i || (match all[i]?, all[j]? with
      | some a, some b => a.dst.toList.all fun t => (!(readTmps all b).contains t || ws.contains i) && (i == j || !(b.dst == some t))
      | _, _ => false)) && headsOk all ns [] t && treeSub all ns [] t && ns.all fun i => decide (i < all.size)

/-- The quiet ones, in their order. -/
def qFrom (ns : List Nat) : Nat → List Oper → List Oper
  | _, [] => []
  | i, o :: r => bif ns.contains i then qFrom ns (i + 1) r else o :: qFrom ns (i + 1) r

/-- A place holds the same. -/
def same (d : Option Tmp) (s s' : St) : Prop := match d with
  | some t => look s.env t = look s'.env t
  | none => True

def lateK (T : Tab) (C : Call) (nF : Nat) (all : Array Oper) (o : Oper) (s : St) : Prop :=
  guardK all o s (quiet1K T C nF o s fun s' => same o.dst s' s) (same o.dst (s.put o.dst undefV) s)

def latesK (T : Tab) (C : Call) (nF : Nat) (all : Array Oper) : List Nat → St → Prop
  | [], _ => True
  | k :: r, s => (match all[k]? with | some o => lateK T C nF all o s | none => True) ∧ latesK T C nF all r s

def trK (T : Tab) (C : Call) (nF : Nat) (all : Array Oper) : OT → St → (St → Prop) → Prop
  | .done, s, K => K s
  | .op i late t, s, K => match all[i]? with
    | some o => guardK all o s (op1K T C nF o s fun s' => latesK T C nF all late s' ∧ trK T C nF all t s' K) (latesK T C nF all late (s.put o.dst undefV) ∧ trK T C nF all t (s.put o.dst undefV) K)
    | none => False
  | .both a b, s, K => trK T C nF all a s K ∧ trK T C nF all b s K

/-- No range over a function in it. -/
def noRange : Code → Bool
  | .seq a b => noRange a && noRange b
  | .cond _ a b => noRange a && noRange b
  | .block _ a => noRange a
  | .loop a => noRange a
  | .rangeFunc .. => false
  | _ => true

/-- Every operation's place is one of the frame's. -/
def dstOk (nt : Nat) : Code → Bool
  | .region _ ops _ => ops.all fun o => match o.dst with
    | some t => Nat.blt t nt
    | none => true
  | .seq a b => dstOk nt a && dstOk nt b
  | .cond _ a b => dstOk nt a && dstOk nt b
  | .block _ a => dstOk nt a
  | .loop a => dstOk nt a
  | .rangeFunc _ ps a b => (ps.all fun t => Nat.blt t nt) && (dstOk nt a && (dstOk nt b && (noRange a && noRange b)))
  | _ => true

inductive Ex where
  | normal | exit (n : Nat) | ret

def thn (K : St → Prop) (Q : Ex → St → Prop) : Ex → St → Prop
  | .normal, s => K s
  | e, s => Q e s

def blk (id : Nat) (Q : Ex → St → Prop) : Ex → St → Prop
  | .exit n, s => bif Nat.beq n id then Q .normal s else Q (.exit n) s
  | e, s => Q e s

/-- References below a number alone. -/
def V.bnd1 (n : Nat) : V → Bool
  | .ref o _ _ => Nat.blt o n
  | .msl o _ _ => Nat.blt o n
  | .d _ => true
  | .any => true
  | _ => false

def V.bnd (n : Nat) : V → Bool
  | .agg cs => cs.all (V.bnd1 n)
  | .fn _ a b => a.all (V.bnd1 n) && b.all (V.bnd1 n)
  | v => v.bnd1 n

def Ob.bnd (n : Nat) : Ob → Bool
  | .var cs _ => cs.all (V.bnd n)
  | .tree _ es => es.all (V.bnd n)
  | _ => true

/-- Objects under other numbers. -/
def V.ren1 (f : Nat → Nat) : V → V
  | .ref o i j => .ref (f o) i j
  | .msl o a b => .msl (f o) a b
  | .d x => .d x
  | _ => .any

def V.ren (f : Nat → Nat) : V → V
  | .agg cs => .agg (cs.map (V.ren1 f))
  | .fn g a b => .fn g (a.map (V.ren1 f)) (b.map (V.ren1 f))
  | v => v.ren1 f

def Ob.ren (f : Nat → Nat) : Ob → Ob
  | .var cs fz => .var (cs.map (V.ren f)) fz
  | .tree sz es => .tree sz (es.map (V.ren f))
  | x => x

def sub (env : List (Nat × V)) : List (Nat × V) → Prop
  | [] => True
  | (t, v) :: r => look env t = v ∧ sub env r

/-- Less is known of data: a slice that is nil is one of no elements. -/
inductive DLe : D → D → Prop where
  | refl (x : D) : DLe x x
  | nil : DLe (.val (.slice none 0 0)) (.sl [])
  | agg {cs ds : List D} (hl : cs.length = ds.length) (h : ∀ i (hi : i < cs.length), DLe cs[i] (ds[i]'(by omega))) : DLe (.agg cs) (.agg ds)
  | sl {cs ds : List D} (hl : cs.length = ds.length) (h : ∀ i (hi : i < cs.length), DLe cs[i] (ds[i]'(by omega))) : DLe (.sl cs) (.sl ds)
  | ptr {cs ds : List D} (hl : cs.length = ds.length) (h : ∀ i (hi : i < cs.length), DLe cs[i] (ds[i]'(by omega))) : DLe (.ptr cs) (.ptr ds)

inductive VLe : V → V → Prop where
  | refl (x : V) : VLe x x
  | any (x : V) : VLe x .any
  | d {x y : D} (h : DLe x y) : VLe (.d x) (.d y)
  | agg {cs ds : List V} (hl : cs.length = ds.length) (h : ∀ i (hi : i < cs.length), VLe cs[i] (ds[i]'(by omega))) : VLe (.agg cs) (.agg ds)
  | tup {cs ds : List V} (hl : cs.length = ds.length) (h : ∀ i (hi : i < cs.length), VLe cs[i] (ds[i]'(by omega))) : VLe (.tup cs) (.tup ds)

inductive ObLe : Ob → Ob → Prop where
  | refl (x : Ob) : ObLe x x
  | var {cs ds : List V} {fz : Bool} (hl : cs.length = ds.length) (h : ∀ i (hi : i < cs.length), VLe cs[i] (ds[i]'(by omega))) : ObLe (.var cs fz) (.var ds fz)
  | arr {sz : Nat} {cs ds : List D} {fz : Bool} (hl : cs.length = ds.length) (h : ∀ i (hi : i < cs.length), DLe cs[i] (ds[i]'(by omega))) : ObLe (.arr sz cs fz) (.arr sz ds fz)
  | tree {sz : Nat} {cs ds : List D} (hl : cs.length = ds.length) (h : ∀ i (hi : i < cs.length), DLe cs[i] (ds[i]'(by omega))) : ObLe (.tree sz (cs.map .d)) (.tree sz (ds.map .d))

def VsLe (a b : List V) : Prop := ∃ h : a.length = b.length, ∀ i (hi : i < a.length), VLe a[i] (b[i]'(by omega))

/-- Less is known. -/
inductive Weak (nF : Nat) : St → St → Prop where
  | dead {s : St} : Weak nF s { s with os := s.os ++ [.dead] }
  | tc {s : St} (o : Nat) {sz : Nat} {es es' : List V} (ho : s.os[o]? = some (.tree sz es)) (h : es.map V.cells = es'.map V.cells) : Weak nF s { s with os := s.os.set o (.tree sz es') }
  /- an array without memory in it is a tree -/
  | toTree {s : St} (o : Nat) {sz : Nat} {es : List D} (ho : s.os[o]? = some (.arr sz es false)) (hf : (es.all fun e => e.cells.all D.fl1) = true) :
      Weak nF s { s with os := s.os.set o (.tree sz (es.map .d)) }
  | ofTree {s : St} (o : Nat) {sz : Nat} {es : List D} (ho : s.os[o]? = some (.tree sz (es.map .d))) (hf : (es.all fun e => e.cells.all D.fl1) = true) :
      Weak nF s { s with os := s.os.set o (.arr sz es false) }
  /- a slice in a tree's cell becomes an object of its own -/
  | unfold {s : St} (o e j : Nat) {sz n : Nat} {es : List V} {xs : List D} (ho : s.os[o]? = some (.tree sz es)) (he : e < es.length) (hj : (gv es e).cells[j]? = some (.d (.sl xs))) (hx : xs ≠ []) (hn : ∀ x ∈ xs, x.cells.length = n) :
      Weak nF s { s with os := s.os.set o (.tree sz (es.set e (setV (gv es e) j [.msl s.os.length 0 xs.length]))) ++ [.tree n (xs.map .d)] }
  /- and goes back into it -/
  | fold {s : St} (o e j q len : Nat) {sz n : Nat} {es : List V} {xs : List D} (ho : s.os[o]? = some (.tree sz es)) (he : e < es.length) (hj : (gv es e).cells[j]? = some (.msl q 0 len)) (hl : len ≤ xs.length) (hq : s.os[q]? = some (.tree n (xs.map .d))) (hne : q ≠ o) :
      Weak nF s { s with os := (s.os.set o (.tree sz (es.set e (setV (gv es e) j [.d (.sl (xs.take len))])))).set q .dead }
  | env {s s' : St} (he : sub s.env s'.env) (ho : s'.os = s.os) : Weak nF s s'
  | drop {s s' : St} (tl : List Ob) (hn : nF ≤ s'.os.length) (he : sub s.env s'.env) (ho : s.os = s'.os ++ tl)
      (h1 : (s'.env.all fun p => p.2.bnd s'.os.length) = true) (h2 : (s'.os.all (Ob.bnd s'.os.length)) = true) : Weak nF s s'
  | fz {s : St} (l : List Nat) : Weak nF s { s with os := freeze s.os l }
  | thaw {s : St} {o t off len : Nat} {sz : Nat} {es : List D} (ho : s.os[o]? = some (.arr sz es true)) (ht : look s.env t = .msl o off len) :
      Weak nF s { s with env := (t, .d (.sl ((es.drop off).take len))) :: s.env }
  | trans {a b c : St} : Weak nF a b → Weak nF b c → Weak nF a c
  | ren {s : St} {os' : List Ob} (f : Nat → Nat) (hf : ∀ o, f (f o) = o) (hn : ∀ o, o < nF → f o = o) (hl : os'.length = s.os.length) (hb : ∀ o, o < s.os.length → f o < s.os.length)
      (ho : ∀ o, o < s.os.length → os'[o]? = (s.os[f o]?).map (Ob.ren f)) : Weak nF s ⟨s.env.map fun x => (x.1, x.2.ren f), os'⟩
  | le {s s' : St} (he : ∀ t, VLe (look s.env t) (look s'.env t)) (hl : s.os.length = s'.os.length) (ho : ∀ i (hi : i < s.os.length), ObLe s.os[i] (s'.os[i]'(by omega))) : Weak nF s s'

inductive Wp (T : Tab) (C : Call) : Nat → Code → St → (Ex → St → Prop) → Prop where
  | weak {nF : Nat} {c : Code} {s s' : St} {Q : Ex → St → Prop} : Weak nF s s' → Wp T C nF c s' Q → Wp T C nF c s Q
  | mono {nF : Nat} {c : Code} {s : St} {Q Q' : Ex → St → Prop} : Wp T C nF c s Q' → (∀ e s, Q' e s → Q e s) → Wp T C nF c s Q
  | skip {nF : Nat} {s : St} {Q : Ex → St → Prop} : Q .normal s → Wp T C nF .skip s Q
  | label {nF : Nat} {l : Nat} {s : St} {Q : Ex → St → Prop} : Q .normal s → Wp T C nF (.label l) s Q
  | exit {nF : Nat} {n : Nat} {s : St} {Q : Ex → St → Prop} : Q (.exit n) s → Wp T C nF (.exit n) s Q
  | ret {nF : Nat} {s : St} {Q : Ex → St → Prop} : Q .ret s → Wp T C nF .ret s Q
  | seq {nF : Nat} {a b : Code} {s : St} {Q M : Ex → St → Prop} : Wp T C nF a s M → (∀ s, M .normal s → Wp T C nF b s Q) → (∀ e s, e ≠ .normal → M e s → Q e s) → Wp T C nF (.seq a b) s Q
  | cond {nF : Nat} {c : Operand} {a b : Code} {s : St} {Q : Ex → St → Prop} (t : Bool) : ev s.env c = .d (.val (.bool t)) → (t = true → Wp T C nF a s Q) → (t = false → Wp T C nF b s Q) → Wp T C nF (.cond c a b) s Q
  | block {nF : Nat} {id : Nat} {a : Code} {s : St} {Q : Ex → St → Prop} : Wp T C nF a s (blk id Q) → Wp T C nF (.block id a) s Q
  | loop {nF : Nat} {a : Code} {s s0 : St} {Q : Ex → St → Prop} (I : Nat → St → Prop) (n : Nat) : Weak nF s s0 → I n s0 →
      (∀ n s, I n s → Wp T C nF a s (thn (fun s' => ∃ m s'', m < n ∧ Weak nF s' s'' ∧ I m s'') Q)) → Wp T C nF (.loop a) s Q
  | region {nF : Nat} {id : Nat} {ops : Array Oper} {s : St} {Q : Ex → St → Prop} : opsK T C nF ops ops.toList s (Q .normal) → Wp T C nF (.region id ops false) s Q
  | draw {nF : Nat} {id : Nat} {ops : Array Oper} {s : St} {Q : Ex → St → Prop} (m : Nat) : drawOk ops m = true →
      quietK T C nF ops (ops.toList.take m) s (fun s' => opsK T C nF ops (ops.toList.drop m) s' (Q .normal)) → Wp T C nF (.region id ops true) s Q
  | drawS {nF : Nat} {id : Nat} {ops : Array Oper} {s : St} {Q : Ex → St → Prop} (ns : List Nat) (t : OT) : drawSOk ops ns t = true →
      quietK T C nF ops (qFrom ns 0 ops.toList) s (fun s' => trK T C nF ops t s' (Q .normal)) → Wp T C nF (.region id ops true) s Q
  | range {nF : Nat} {f : Operand} {p0 p1 : Tmp} {assign body : Code} {s : St} {Q : Ex → St → Prop} (g : FuncId) (es : List Int) (I : Nat → List Ob → Prop) (X : Ex → List Ob → Prop) (M : Nat → List Ob → St → Prop) :
      g ∈ T.bk → p0 ≠ p1 → nF ≤ s.os.length → es.length * 8 ≤ 140737488351232 → ev s.env f = .d (.fn (.func g) [] [.ptr [.sl (es.map .i)]]) → I es.length s.os →
      (∀ k os, k < es.length → I (k + 1) os → Wp T C s.os.length assign ⟨(p1, .d (.i (es.getD k 0))) :: (p0, .d (.i k)) :: s.env, os⟩ (fun e s' => e = .normal ∧ M k os s')) →
      (∀ k os s', k < es.length → I (k + 1) os → M k os s' → Wp T C s.os.length body s' (thn (fun s' => ∃ s'', Weak s.os.length s' s'' ∧ I k s''.os) (fun e s' => ∃ s'', Weak s.os.length s' s'' ∧ X e s''.os))) →
      (∀ os, I 0 os → Q .normal ⟨s.env, os⟩) → (∀ e os, X e os → e ≠ .normal ∧ Q e ⟨s.env, os⟩) → Wp T C nF (.rangeFunc f #[p0, p1] assign body) s Q

/-- The walk of code, by the code's own shape; loops are left. -/
def G (T : Tab) (C : Call) (nF : Nat) : Code → St → (Ex → St → Prop) → Prop
  | .skip, s, Q => Q .normal s
  | .label _, s, Q => Q .normal s
  | .exit n, s, Q => Q (.exit n) s
  | .ret, s, Q => Q .ret s
  | .seq a b, s, Q => G T C nF a s (thn (fun s => G T C nF b s Q) Q)
  | .cond c a b, s, Q => match ev s.env c with
    | .d (.val (.bool t)) => (t = true → G T C nF a s Q) ∧ (t = false → G T C nF b s Q)
    | _ => False
  | .block id a, s, Q => G T C nF a s (blk id Q)
  | .region _ ops false, s, Q => opsK T C nF ops ops.toList s (Q .normal)
  | c, s, Q => Wp T C nF c s Q

theorem thn_mono {K K' : St → Prop} {Q Q' : Ex → St → Prop} (h : ∀ s, K s → K' s) (hq : ∀ e s, Q e s → Q' e s) (e : Ex) (s : St) : thn K Q e s → thn K' Q' e s := by
  cases e <;> simp only [thn] <;> first | exact h s | exact hq _ s

theorem Wp.of_G {T : Tab} {C : Call} {nF : Nat} (c : Code) : ∀ (s : St) (Q : Ex → St → Prop), G T C nF c s Q → Wp T C nF c s Q := by
  induction c with
  | skip => exact fun s Q h => .skip h
  | label l => exact fun s Q h => .label h
  | exit n => exact fun s Q h => .exit h
  | ret => exact fun s Q h => .ret h
  | seq a b iha ihb =>
    intro s Q h
    refine .seq (iha s _ h) (fun s' h' => ihb s' Q h') (fun e s' he h' => ?_)
    cases e <;> first | exact absurd rfl he | exact h'
  | cond c a b iha ihb =>
    intro s Q h
    simp only [G] at h
    split at h
    · rename_i t ht
      exact .cond t ht (fun e => iha s Q (h.1 e)) (fun e => ihb s Q (h.2 e))
    · exact h.elim
  | block id a iha => exact fun s Q h => .block (iha s _ h)
  | region id ops d =>
    intro s Q h
    cases d
    · exact .region h
    · exact h
  | loop a _ => exact fun s Q h => h
  | rangeFunc => exact fun s Q h => h
  | scope => exact fun s Q h => h
  | goto => exact fun s Q h => h
  | refuse => exact fun s Q h => h

/-- The results of a body. -/
def resV (T : Tab) (s : St) : ResultVar → Option V
  | .tmp t => some (look s.env t)
  | .cell a t => match ti T t, look s.env a with
    | some i, .ref o e j => match s.os[o]? with
      | some (.var cs _) => if e = 0 ∧ j + (bif i.agg then i.size else 1) ≤ cs.length then some (ofCells i.agg (cs.drop j) i.size) else none
      | _ => none
    | _, _ => none

def resVs (T : Tab) (s : St) : List ResultVar → Option (List V)
  | [] => some []
  | x :: r => match resV T s x, resVs T s r with
    | some v, some vs => some (v :: vs)
    | _, _ => none

def resOf (vs : List V) : V := match vs with
  | [v] => v
  | vs => .tup vs

/-- A frozen object. -/
def frozen (os : List Ob) (o : Nat) : Bool := match os[o]? with
  | some (.var _ fz) => fz
  | some (.arr _ _ fz) => fz
  | _ => false

/-- A result, as data where it can be. -/
def asD (os : List Ob) (v : V) : V := match leaf os v with
  | some (x, l) => bif l.all (frozen os) then .d x else v
  | none => v

def V.bndR (n : Nat) : V → Bool
  | .tup cs => cs.all (V.bnd n)
  | v => v.bnd n

/-- What the body leaves is the result. -/
inductive Ends (T : Tab) (fn : Func) (nF : Nat) (s : St) (r : V) (os' : List Ob) : Prop where
  | mk (vs : List V) (tl : List Ob) (res : resVs T s fn.results.toList = some vs) (eq : VLe (resOf (vs.map (asD s.os))) r) (os : s.os = os' ++ tl) (le : nF ≤ os'.length)
      (bnd : r.bndR os'.length = true) (bnd2 : os'.all (Ob.bnd os'.length) = true) : Ends T fn nF s r os'
  | data (vs : List V) (ds : List D) (l : List Nat) (res : resVs T s fn.results.toList = some vs) (hd : mapL (leaf s.os) vs = some (ds, l)) (h0 : nF = 0) (eq : VLe (resOf (ds.map .d)) r) (os : os' = []) : Ends T fn nF s r os'

def init (args : List V) (os : List Ob) : St := ⟨(List.range args.length).zip args, os⟩

structure Closed (P : Program) (T : Tab) (X C : Call) : Prop where
  ext : ∀ f a os r os', X f a os r os' → C f a os r os'
  le : ∀ f a a' os r r' os', VsLe a a' → VLe r r' → C f a' os r os' → C f a os r' os'
  fn : ∀ f fn body a os r os', P.funcs[f]? = some fn → fn.body = some body → (fn.name == "runtime.NumGoroutine") = false → a.length ≤ fn.ntmps → dstOk fn.ntmps body = true →
    Wp T C os.length body (init a os) (fun e s => (e = .ret ∨ e = .normal) ∧ ∃ s', Weak os.length s s' ∧ Ends T fn os.length s' r os') → C f a os r os'

/-- The least of all closed sets of calls. -/
def Den (P : Program) (T : Tab) (X : Call) : Call := fun f a os r os' => ∀ C : Call, Closed P T X C → C f a os r os'

end Go.PL
