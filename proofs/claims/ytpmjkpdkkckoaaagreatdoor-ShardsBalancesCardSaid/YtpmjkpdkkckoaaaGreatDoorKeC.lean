/- The abstract run: what each operation does to the abstract heap. Definitions alone. -/
import Derived.Test.YtpmjkpdkkckoaaaGreatDoorKeAb
namespace Go.Ke

/-- What an operation comes to. 'new': a new block, and the value that leads to it. -/
inductive Mk where
  | ptr
  | slice (len cap : Nat)
  | map

def Mk.val (k : Nat) : Mk → Value
  | .ptr => .pointer (some ⟨k, 0, none⟩)
  | .slice len cap => .slice (some ⟨k, 0, none⟩) len cap
  | .map => .map (some k)

/-- The object of a new block: a row of cells, or another. -/
inductive Born where
  | row (cells : List Value) (elem : TypeId)
  | map
  | mapIter (m : Option Nat) (clock : Nat)
  | strIter (s : ByteArray)

noncomputable def Born.obj (k : Nat) : Born → AObj
  | .row cells elem => .row (fillTr cells 0 .nil) cells.length elem k 0
  | .map => .map [] 0
  | .mapIter m clock => .mapIter m clock [] clock
  | .strIter s => .strIter s 0

inductive ORes where
  | val (v : Value)
  | skip
  | new (b : Born) (mk : Mk)
  | upd (v : Value) (σ : St)
  | call (f : FuncId) (args : List Value)

noncomputable def St.put (σ : St) (ob : AObj) : St := { σ with heap := σ.heap.set ob σ.next, next := Nat.succ σ.next }

section
variable (P : Program)

def isAggB (t : TypeId) : Bool := match P.underlying t with
  | some (.struct _) => true
  | some (.array _ _) => true
  | _ => false

noncomputable def tmpOf (T : Tr Value) (t : Nat) : Value := @Option.rec Value (fun _ => Value) undef (fun v => v) (T.get t)

noncomputable def opd (σ : St) (T : Tr Value) : Operand → Option Value
  | .tmp t => some (tmpOf T t)
  | .const v => match plainV v with
    | true => some v
    | false => none
  | .global g => match Nat.blt g σ.G with
    | true => some (.pointer (some ⟨g, 0, none⟩))
    | false => none
  | .func f => some (.func (.func f) #[] #[])

noncomputable def opds (σ : St) (T : Tr Value) (l : List Operand) : Option (List Value) :=
  @List.rec Operand (fun _ => Option (List Value)) (some []) (fun x _ ih => match opd σ T x with
    | none => none
    | some v => match ih with
      | none => none
      | some r => some (v :: r)) l

/-- Read 'n' cells. -/
noncomputable def aLoad (σ : St) (k off n : Nat) : Option (List Value) := match σ.heap.get k with
  | some (.row cells len _ cls _) => match σ.valid k cls && Nat.ble (off + n) len with
    | true => readTr cells n off
    | false => none
  | _ => none

noncomputable def allOne (l : List Value) : Bool := @List.rec Value (fun _ => Bool) true (fun v _ ih => @Bool.rec (fun _ => Bool) false ih v.oneCell') l

/-- Keep of a stack the block 'k' and what ends at 'p' or ahead of it. -/
noncomputable def keepStack (k p : Nat) (l : List (Nat × Nat)) : List (Nat × Nat) :=
  @List.rec (Nat × Nat) (fun _ => List (Nat × Nat)) [] (fun x _ ih => match Nat.beq x.1 k || Nat.ble x.2 p with
    | true => x :: ih
    | false => ih) l

/-- No place from 'p' on, 'n' of them, may be frozen. -/
noncomputable def ACls.clear (x : ACls) (p n : Nat) : Bool := !x.ro && (Nat.ble x.hi p || Nat.ble (p + n) x.lo)

/-- Write cells. -/
noncomputable def aStore (σ : St) (k off : Nat) (vs : List Value) : Option St := match σ.heap.get k with
  | some (.row cells len elem cls pos) => match σ.valid k cls && Nat.ble (off + vs.length) len && allOne vs with
    | false => none
    | true => match σ.cls.get cls with
      | none => some { σ with heap := σ.heap.set (.row (fillTr vs off cells) len elem cls pos) k }
      | some x => match x.clear (pos + off) vs.length with
        | false => none
        | true => some { σ with heap := σ.heap.set (.row (fillTr vs off cells) len elem cls pos) k, cls := σ.cls.set { x with stack := keepStack k (pos + off) x.stack } cls }
  | _ => none

/-- The element type of a slice type. -/
def sliceElem (t : TypeId) : Option TypeId := match P.underlying t with
  | some (.slice e) => some e
  | _ => none

noncomputable def zeroCellsOf (t : TypeId) : Option (List Value) := match P.info? t with
  | some i => match i.zero with
    | some z => match allPlain z.cells.toList with
      | true => some z.cells.toList
      | false => none
    | none => none
  | none => none

/-- The cells of what is appended or copied: 'n' elements of 'size' cells. -/
noncomputable def srcCells (σ : St) (size n : Nat) : Value → Option (List Value)
  | .slice (some ⟨k, off, none⟩) _ _ => aLoad σ k off (n * size)
  | .slice none 0 0 => some []
  | .string s => some ((s.data.toList.take n).map fun b => .int .u8 b.toNat)
  | _ => none

def lenVal : Value → Option Nat
  | .slice _ n _ => some n
  | .string s => some s.data.toList.length
  | _ => none

/-- The class that a growing row stands in, as it was. -/
noncomputable def clsAt (σ : St) (cls k e : Nat) : ACls := match σ.cls.get cls with
  | some x => x
  | none => { stack := [(k, e)], lo := 0, hi := 0, tail := false, ro := false }

/-- A row that grows out of another, at most within its spare room. -/
noncomputable def aGrow (σ : St) (k off size len n : Nat) (new : List Value) (elem : TypeId) : Option (Value × St) :=
  match σ.heap.get k with
  | some (.row cells klen kelem cls pos) =>
    match σ.valid k cls && Nat.ble (off + len * size) klen && Nat.beq kelem elem with
    | false => none
    | true => match readTr cells (len * size) off with
      | none => none
      | some old =>
        match (clsAt σ cls k (pos + klen)).clear (pos + off + len * size) (n * size) with
        | false => none
        | true =>
          match inStack k (keepStack σ.next (pos + off + len * size) (clsAt σ cls k (pos + klen)).stack) with
          | true => some (.slice (some ⟨σ.next, 0, none⟩) (len + n) unk,
            { σ with
              heap := σ.heap.set (.row (fillTr new (len * size) (fillTr old 0 .nil)) ((len + n) * size) elem cls (pos + off)) σ.next
              next := Nat.succ σ.next
              cls := σ.cls.set { clsAt σ cls k (pos + klen) with stack := (σ.next, pos + off + len * size + n * size) :: keepStack σ.next (pos + off + len * size) (clsAt σ cls k (pos + klen)).stack } cls })
          | false => some (.slice (some ⟨σ.next, 0, none⟩) (len + n) unk,
            { σ with
              heap := (σ.heap.set (.row cells (off + len * size) kelem cls pos) k).set (.row (fillTr new (len * size) (fillTr old 0 .nil)) ((len + n) * size) elem cls (pos + off)) σ.next
              next := Nat.succ σ.next
              cls := σ.cls.set { clsAt σ cls k (pos + klen) with stack := (σ.next, pos + off + len * size + n * size) :: (k, pos + off + len * size) :: keepStack σ.next (pos + off + len * size) (clsAt σ cls k (pos + klen)).stack } cls })
  | _ => none

/-- There is room for so many elements of so many bytes, whatever Go rounds up to. -/
def roomFor (need bytes : Nat) : Bool := Nat.ble need 1099511627776 && Nat.ble ((4 * need + 4000) * bytes) 281474976710656

/-- What an append knows of its types: the element's type, and its row. -/
noncomputable def appTypes (argTypes : Array TypeId) : Option (TypeId × TypeInfo) := match argTypes[0]?, argTypes[1]? with
  | some st, some xt => match sliceElem P st, P.underlying xt with
    | some elem, some xd => match xd with
      | .int _ => none
      | _ => match P.info? elem, zeroCellsOf P elem with
        | some i, some z => match Nat.beq z.length i.size with
          | true => some (elem, i)
          | false => none
        | _, _ => none
    | _, _ => none
  | _, _ => none

/-- append(s, x..) -/
noncomputable def aAppend (σ : St) (argTypes : Array TypeId) (s x : Value) : Option ORes :=
  match appTypes P argTypes, lenVal x with
  | some (elem, i), some n => match srcCells σ i.size n x with
    | none => none
    | some new => match allOne new && Nat.beq new.length (n * i.size) with
      | false => none
      | true => match s with
        | .slice none 0 0 => match n with
          | 0 => some (.val s)
          | _ + 1 => match roomFor n i.bytes with
            | true => some (.new (.row new elem) (.slice n unk))
            | false => none
        | .slice (some ⟨k, off, none⟩) len cap => match roomFor (len + n) i.bytes with
          | false => none
          | true => match Nat.blt cap unk with
            | true => match Nat.ble (len + n) cap with
              | true => match aStore σ k (off + len * i.size) new with
                | some σ' => some (.upd (.slice (some ⟨k, off, none⟩) (len + n) cap) σ')
                | none => none
              | false => match aLoad σ k off (len * i.size) with
                | some old => match allOne old with
                  | true => some (.new (.row (old ++ new) elem) (.slice (len + n) unk))
                  | false => none
                | none => none
            | false => match n with
              | 0 => some (.val s)
              | _ + 1 => match aGrow σ k off i.size len n new elem with
                | some (v, σ') => some (.upd v σ')
                | none => none
        | _ => none
  | _, _ => none

end
section
variable (P : Program)

/-- A run that looks at the program alone. -/
def pureRun {α : Type} : Sem α → Option α
  | .pure a => some a
  | .program k => pureRun (k P)
  | .mark _ k => pureRun k
  | _ => none

noncomputable def opdD (σ : St) (T : Tr Value) (x : Operand) : Value := match opd σ T x with
  | some v => v
  | none => undef

noncomputable def plainOpds (σ : St) (T : Tr Value) (l : List Operand) : Bool :=
  @List.rec Operand (fun _ => Bool) true (fun x _ ih => match opd σ T x with
    | none => false
    | some v => match plainV v with
      | true => ih
      | false => false) l

/-- An operation upon values without addresses that looks at no memory: by the model's own text. -/
noncomputable def eGeneric (σ : St) (T : Tr Value) (o : Oper) : Option ORes := match plainOpds σ T o.op.operands.toList with
  | false => none
  | true => match pureRun P (execOp (opdD σ T) o) with
    | some (.value v) => match plainV v with
      | true => some (.val v)
      | false => none
    | _ => none

/-- Integers of one kind: the commonest operations. -/
noncomputable def intBin (op : BinOp) (k : IntKind) (a b : Int) : Option Value := match op with
  | .add => some (.int k (k.wrap (a + b)))
  | .sub => some (.int k (k.wrap (a - b)))
  | .mul => some (.int k (k.wrap (a * b)))
  | .eql => some (.bool (a == b))
  | .neq => some (.bool (a != b))
  | .lss => some (.bool (decide (a < b)))
  | .leq => some (.bool (decide (a ≤ b)))
  | .gtr => some (.bool (decide (a > b)))
  | .geq => some (.bool (decide (a ≥ b)))
  | _ => none

/-- Is one of two values nil? For pointers, slices, maps, functions, interfaces: the answer of '=='. -/
def nilEq (d : TypeDesc) (x y : Value) : Option Bool := match d, x, y with
  | .pointer _, .pointer none, .pointer b => some b.isNone
  | .pointer _, .pointer (some _), .pointer none => some false
  | .slice _, .slice none 0 0, .slice b _ _ => some b.isNone
  | .slice _, .slice (some _) _ _, .slice none 0 0 => some false
  | .map _ _, .map none, .map b => some b.isNone
  | .map _ _, .map (some _), .map none => some false
  | .func _ _ _, .nilFunc, .nilFunc => some true
  | .func _ _ _, .nilFunc, .func _ _ _ => some false
  | .func _ _ _, .func _ _ _, .nilFunc => some false
  | .interface _, .nilIface, .iface _ _ => some false
  | .interface _, .iface _ _, .nilIface => some false
  | _, _, _ => none

/-- The kinds of a map's key, and of a struct's fields, that are compared by their cells. -/
def keyKind (t : TypeId) : Option TypeDesc := match P.underlying t with
  | some .bool => some .bool
  | some (.int k) => some (.int k)
  | some .string => some .string
  | _ => none

/-- Are two values of such a kind one? -/
def same1 (d : TypeDesc) (x y : Value) : Option Bool := match d, x, y with
  | .bool, .bool a, .bool b => some (a == b)
  | .int _, .int k a, .int k' b => match decide (k = k') with
    | true => some (a == b)
    | false => none
  | .string, .string a, .string b => some (a.data.toList == b.data.toList)
  | _, _, _ => none

/-- A part of an aggregate. -/
noncomputable def partOf (t : TypeId) (cs : List Value) (off : Nat) : Option Value := match P.underlying t with
  | none => none
  | some _ => match isAggB P t with
    | true => some (.agg ((cs.drop off).take (P.cellsOf t)).toArray)
    | false => lget cs off

/-- Structs: field by field, none of them blank. -/
noncomputable def eqFs (self : TypeId → Value → Value → Option Bool) (xs ys : List Value) (l : List Field) : Option Bool :=
  @List.rec Field (fun _ => Option Bool) (some true) (fun f _ ih => match f.name != "_" with
    | false => none
    | true => match partOf P f.type xs f.offset, partOf P f.type ys f.offset with
      | some u, some v => match self f.type u v with
        | some true => ih
        | some false => some false
        | none => none
      | _, _ => none) l

/-- Arrays: element by element. -/
noncomputable def eqIs (self : TypeId → Value → Value → Option Bool) (e : TypeId) (xs ys : List Value) (l : List Nat) : Option Bool :=
  @List.rec Nat (fun _ => Option Bool) (some true) (fun i _ ih => match partOf P e xs (i * P.cellsOf e), partOf P e ys (i * P.cellsOf e) with
    | some u, some v => match self e u v with
      | some true => ih
      | some false => some false
      | none => none
    | _, _ => none) l

noncomputable def eqV (n : Nat) : TypeId → Value → Value → Option Bool :=
  @Nat.rec (fun _ => TypeId → Value → Value → Option Bool) (fun _ _ _ => none) (fun _ ih t a b => match P.underlying t with
    | some .bool => same1 .bool a b
    | some (.int k) => same1 (.int k) a b
    | some .string => same1 .string a b
    | some (.struct fs) => match a, b with
      | .agg xs, .agg ys => match P.stoodInHeld t with
        | false => eqFs P ih xs.toList ys.toList fs.toList
        | true => none
      | _, _ => none
    | some (.array len e) => match a, b with
      | .agg xs, .agg ys => match P.info? e with
        | some _ => eqIs P ih e xs.toList ys.toList (List.range len)
        | none => none
      | _, _ => none
    | _ => none) n

noncomputable def keyEq (t : TypeId) (a b : Value) : Option Bool := eqV P 8 t a b

noncomputable def ckFs (self : TypeId → Value → Bool) (xs : List Value) (l : List Field) : Bool :=
  @List.rec Field (fun _ => Bool) true (fun f _ ih => match f.name != "_", partOf P f.type xs f.offset with
    | true, some u => @Bool.rec (fun _ => Bool) false ih (self f.type u)
    | _, _ => false) l

noncomputable def ckIs (self : TypeId → Value → Bool) (e : TypeId) (xs : List Value) (l : List Nat) : Bool :=
  @List.rec Nat (fun _ => Bool) true (fun i _ ih => match partOf P e xs (i * P.cellsOf e) with
    | some u => @Bool.rec (fun _ => Bool) false ih (self e u)
    | none => false) l

noncomputable def ckV (n : Nat) : TypeId → Value → Bool :=
  @Nat.rec (fun _ => TypeId → Value → Bool) (fun _ _ => false) (fun _ ih t a => match P.underlying t with
    | some .bool => true
    | some (.int _) => true
    | some .string => true
    | some (.struct fs) => match a with
      | .agg xs => ckFs P ih xs.toList fs.toList
      | _ => false
    | some (.array len e) => match a with
      | .agg xs => match P.info? e with
        | some _ => ckIs P ih e xs.toList (List.range len)
        | none => false
      | _ => false
    | _ => false) n

def scalar1 : Value → Bool
  | .bool _ => true
  | .int _ _ => true
  | .string _ => true
  | _ => false

noncomputable def allScalar (l : List Value) : Bool := @List.rec Value (fun _ => Bool) true (fun v _ ih => @Bool.rec (fun _ => Bool) false ih (scalar1 v)) l

/-- A key that can be looked for. -/
noncomputable def keyOk (t : TypeId) (v : Value) : Bool := (plainV v && allScalar v.cells.toList) && ckV P 8 t v

/-- Are two values of one cell the same to the letter? -/
noncomputable def veq1 : Value → Value → Bool
  | .bool a, .bool b => a == b
  | .int k a, .int k' b => decide (k = k') && decide (a = b)
  | .string a, .string b => a.data.toList == b.data.toList
  | .pointer a, .pointer b => decide (a = b)
  | .slice a n c, .slice a' n' c' => decide (a = a') && Nat.beq n n' && Nat.beq c c'
  | .map a, .map b => decide (a = b)
  | .nilFunc, .nilFunc => true
  | .nilIface, .nilIface => true
  | .chan none, .chan none => true
  | _, _ => false

noncomputable def veqL (a : List Value) : List Value → Bool :=
  @List.rec Value (fun _ => List Value → Bool) (fun l => match l with
    | [] => true
    | _ :: _ => false) (fun x _ ih l => match l with
    | [] => false
    | y :: r => @Bool.rec (fun _ => Bool) false (ih r) (veq1 x y)) a

noncomputable def veqLf (f : Value → Value → Bool) (a : List Value) : List Value → Bool :=
  @List.rec Value (fun _ => List Value → Bool) (fun l => match l with
    | [] => true
    | _ :: _ => false) (fun x _ ih l => match l with
    | [] => false
    | y :: r => @Bool.rec (fun _ => Bool) false (ih r) (f x y)) a

/-- Are two values the same? What lies in structs, tuples, closures and interfaces is looked at to a depth. -/
noncomputable def veqS : Nat → Value → Value → Bool :=
  @Nat.rec (fun _ => Value → Value → Bool) veq1 (fun _ ih x y => match x, y with
    | .agg a, .agg b => veqLf ih a.toList b.toList
    | .tuple a, .tuple b => veqLf ih a.toList b.toList
    | .func (.func f) a b, .func (.func g) c d => Nat.beq f g && veqLf ih a.toList c.toList && veqLf ih b.toList d.toList
    | .iface t a, .iface u b => Nat.beq t u && ih a b
    | a, b => veq1 a b)

noncomputable def veq (x y : Value) : Bool := veqS 6 x y

/-- One place, twice. -/
def samePtr (d : TypeDesc) (p q : Addr) : Bool := match d with
  | .pointer e => (P.info? e).isSome && decide (p = q)
  | _ => false

noncomputable def eBin (σ : St) (T : Tr Value) (o : Oper) (op : BinOp) (t : TypeId) (x y : Operand) : Option ORes :=
  match opd σ T x, opd σ T y with
  | some (.int k a), some (.int k' b) => match decide (k = k'), intBin op k a b with
    | true, some v => some (.val v)
    | _, _ => eGeneric P σ T o
  | some a, some b => match P.underlying t with
    | some d => match nilEq d a b with
      | some r => match op with
        | .eql => some (.val (.bool r))
        | .neq => some (.val (.bool (!r)))
        | _ => none
      | none => match a, b with
        | .agg xs, .agg ys => match P.eqGuardType P.depth t with
          | false => match keyEq P t (.agg xs) (.agg ys) with
            | some r => match op with
              | .eql => some (.val (.bool r))
              | .neq => some (.val (.bool (!r)))
              | _ => none
            | none => none
          | true => none
        | .pointer (some p), .pointer (some q) => match samePtr P d p q with
          | true => match op with
            | .eql => some (.val (.bool true))
            | .neq => some (.val (.bool false))
            | _ => none
          | false => none
        | _, _ => eGeneric P σ T o
    | none => none
  | _, _ => none

noncomputable def eLoad (σ : St) (t : TypeId) (v : Value) : Option ORes := match v with
  | .pointer (some ⟨k, off, none⟩) => match P.underlying t with
    | none => none
    | some _ => match isAggB P t with
      | true => match aLoad σ k off (P.cellsOf t) with
        | some l => some (.val (.agg l.toArray))
        | none => none
      | false => match aLoad σ k off 1 with
        | some [v] => some (.val v)
        | _ => none
  | _ => none

noncomputable def eStore (σ : St) (t : TypeId) (v x : Value) : Option ORes := match v with
  | .pointer (some ⟨k, off, none⟩) => match P.info? t with
    | none => none
    | some _ => match Nat.beq x.cells.toList.length (P.cellsOf t) with
      | false => none
      | true => match aStore σ k off x.cells.toList with
        | some σ' => some (.upd undef σ')
        | none => none
  | _ => none

noncomputable def fieldOf (t : TypeId) (f : Nat) : Option Field := match P.underlying t with
  | some (.struct fs) => lget fs.toList f
  | _ => none

noncomputable def eFieldAddr (t : TypeId) (v : Value) (f : Nat) : Option ORes := match v, fieldOf P t f with
  | .pointer (some ⟨k, off, none⟩), some fd => match P.cellsOf fd.type with
    | 0 => none
    | _ + 1 => some (.val (.pointer (some ⟨k, off + fd.offset, none⟩)))
  | _, _ => none

noncomputable def eField (t : TypeId) (v : Value) (f : Nat) : Option ORes := match v, fieldOf P t f with
  | .agg cs, some fd => match partOf P fd.type cs.toList fd.offset with
    | some r => some (.val r)
    | none => none
  | _, _ => none

noncomputable def eIndexAddr (t : TypeId) (v i : Value) : Option ORes := match i with
  | .int _ (.ofNat n) => match P.underlying t, v with
    | some (.array len e), .pointer (some ⟨k, off, none⟩) => match Nat.blt n len, P.info? e with
      | true, some _ => some (.val (.pointer (some (Addr.add ⟨k, off, none⟩ (n * P.cellsOf e)))))
      | _, _ => none
    | some (.slice e), .slice (some ⟨k, off, none⟩) len _ => match Nat.blt n len, P.info? e with
      | true, some _ => some (.val (.pointer (some (Addr.add ⟨k, off, none⟩ (n * P.cellsOf e)))))
      | _, _ => none
    | _, _ => none
  | _ => none

noncomputable def eIndex (σ : St) (T : Tr Value) (o : Oper) (t : TypeId) (v i : Value) : Option ORes := match v with
  | .agg cs => match i with
    | .int _ (.ofNat n) => match P.underlying t with
      | some (.array len e) => match Nat.blt n len with
        | true => match partOf P e cs.toList (n * P.cellsOf e) with
          | some r => some (.val r)
          | none => none
        | false => none
      | _ => none
    | _ => none
  | .string s => match i with
    | .int _ (.ofNat n) => match P.underlying t with
      | some .string => match lget s.data.toList n with
        | some b => some (.val (.int .u8 b.toNat))
        | none => none
      | _ => none
    | _ => none
  | _ => eGeneric P σ T o

/-- The bounds of a slice expression: the numbers given, else these. -/
noncomputable def bound (σ : St) (T : Tr Value) (d : Nat) : Option Operand → Option Nat
  | none => some d
  | some x => match opd σ T x with
    | some (.int _ (.ofNat n)) => some n
    | _ => none

def okMax (hi mx : Option Operand) : Bool := match mx, hi with
  | some _, none => false
  | _, _ => true

noncomputable def eSlice (σ : St) (T : Tr Value) (t : TypeId) (v : Value) (lo hi mx : Option Operand) : Option ORes := match okMax hi mx with
  | false => none
  | true => match P.underlying t, v with
  | some .string, .string s => match mx with
    | some _ => none
    | none => match bound σ T 0 lo, bound σ T s.data.toList.length hi with
      | some l, some h => match Nat.ble l h && Nat.ble h s.data.toList.length with
        | true => some (.val (.string ⟨⟨(s.data.toList.drop l).take (h - l)⟩⟩))
        | false => none
      | _, _ => none
  | some (.slice e), .slice none 0 0 => match P.info? e, bound σ T 0 lo, bound σ T 0 hi, bound σ T 0 mx with
    | some _, some 0, some 0, some 0 => some (.val (.slice none 0 0))
    | _, _, _, _ => none
  | some (.slice e), .slice (some ⟨k, off, none⟩) len cap => match P.info? e, σ.heap.get k with
    | some _, some (.row _ _ kelem _ _) => match Nat.blt cap unk with
      | true => match bound σ T 0 lo, bound σ T len hi, bound σ T cap mx with
        | some l, some h, some m => match Nat.ble l h && Nat.ble h m && Nat.ble m cap with
          | true => some (.val (.slice (some ⟨k, off + l * P.cellsOf e, none⟩) (h - l) (m - l)))
          | false => none
        | _, _, _ => none
      | false => match bound σ T 0 lo, bound σ T len hi, mx with
        | some l, some h, none => match Nat.ble l h && Nat.ble h len && Nat.beq (P.cellsOf e) (P.cellsOf kelem) with
          | true => some (.val (.slice (some ⟨k, off + l * P.cellsOf e, none⟩) (h - l) unk))
          | false => none
        | some l, some h, some _ => match bound σ T 0 mx with
          | some m => match Nat.ble l h && Nat.ble h m && Nat.ble m len && Nat.blt m unk with
            | true => some (.val (.slice (some ⟨k, off + l * P.cellsOf e, none⟩) (h - l) (m - l)))
            | false => none
          | none => none
        | _, _, _ => none
    | _, _ => none
  | some (.array n e), .pointer (some ⟨k, off, none⟩) => match P.info? e with
    | none => none
    | some _ => match bound σ T 0 lo, bound σ T n hi, bound σ T n mx with
      | some l, some h, some m => match Nat.ble l h && Nat.ble h m && Nat.ble m n && Nat.blt m unk with
        | true => some (.val (.slice (some ⟨k, off + l * P.cellsOf e, none⟩) (h - l) (m - l)))
        | false => none
      | _, _, _ => none
  | _, _ => none

/-- Cells laid over others from a place on. -/
noncomputable def splice (cells : List Value) : Nat → List Value → List Value :=
  @List.rec Value (fun _ => Nat → List Value → List Value) (fun _ _ => []) (fun c _ ih off vs => match off with
    | 0 => match vs with
      | [] => c :: ih 0 []
      | v :: r => v :: ih 0 r
    | n + 1 => c :: ih n vs) cells

noncomputable def fillL (place : Nat → Option (Nat × Nat)) (parts : List (Nat × Value)) : List Value → Option (List Value) :=
  @List.rec (Nat × Value) (fun _ => List Value → Option (List Value)) (fun cells => some cells) (fun x _ ih cells => match place x.1 with
    | none => none
    | some (off, size) => match Nat.beq x.2.cells.toList.length size && Nat.ble (off + size) cells.length with
      | false => none
      | true => ih (splice cells off x.2.cells.toList)) parts

noncomputable def partVals (σ : St) (T : Tr Value) (l : List (Nat × Operand)) : Option (List (Nat × Value)) :=
  @List.rec (Nat × Operand) (fun _ => Option (List (Nat × Value))) (some []) (fun x _ ih => match opd σ T x.2 with
    | none => none
    | some v => match ih with
      | none => none
      | some r => some ((x.1, v) :: r)) l

noncomputable def repL (l : List Value) (n : Nat) : List Value := @Nat.rec (fun _ => List Value) [] (fun _ ih => l ++ ih) n

noncomputable def allSized (l : List Field) : Bool := @List.rec Field (fun _ => Bool) true (fun f _ ih => match P.info? f.type with
  | some _ => ih
  | none => false) l

noncomputable def eBuild (σ : St) (T : Tr Value) (t : TypeId) (parts : List (Nat × Operand)) : Option ORes :=
  match zeroCellsOf P t, partVals σ T parts with
  | some z, some ps => match P.underlying t with
    | some (.struct fs) => match allSized P fs.toList with
      | false => none
      | true => match fillL (fun i => match lget fs.toList i with
        | some f => some (f.offset, P.cellsOf f.type)
        | none => none) ps z with
        | some cells => some (.val (.agg cells.toArray))
        | none => none
    | some (.array _ e) => match P.info? e with
      | none => none
      | some _ => match fillL (fun i => some (i * P.cellsOf e, P.cellsOf e)) ps z with
        | some cells => some (.val (.agg cells.toArray))
        | none => none
    | _ => none
  | _, _ => none

noncomputable def eBuildSlice (σ : St) (T : Tr Value) (t : TypeId) (len : Nat) (parts : List (Nat × Operand)) : Option ORes :=
  match sliceElem P t, partVals σ T parts with
  | some e, some ps => match zeroCellsOf P e with
    | some z => match Nat.beq z.length (P.cellsOf e) && Nat.ble (len * P.cellsOf e) 16777216 with
      | false => none
      | true => match fillL (fun i => some (i * P.cellsOf e, P.cellsOf e)) ps (repL z len) with
        | some cells => some (.new (.row cells e) (.slice len len))
        | none => none
    | none => none
  | _, _ => none

noncomputable def eMakeSlice (t : TypeId) (l c : Value) : Option ORes := match l, c with
  | .int _ (.ofNat n), .int _ (.ofNat m) => match sliceElem P t with
    | some e => match zeroCellsOf P e, P.info? e with
      | some z, some i => match Nat.beq z.length (P.cellsOf e) && Nat.ble n m && Nat.ble (i.bytes * m) 281474976710656 && Nat.ble m 281474976710656 with
        | false => none
        | true => some (.new (.row (repL z m) e) (.slice n m))
      | _, _ => none
    | none => none
  | _, _ => none

/-- The entry with a key, and its place. -/
noncomputable def findE (t : TypeId) (key : Value) (l : List MapEntry) : Nat → Option (Option (Nat × MapEntry)) :=
  @List.rec MapEntry (fun _ => Nat → Option (Option (Nat × MapEntry))) (fun _ => some none) (fun e _ ih i => match keyEq P t key e.key with
    | none => none
    | some true => some (some (i, e))
    | some false => ih (Nat.succ i)) l

noncomputable def setE (e : MapEntry) (l : List MapEntry) : Nat → List MapEntry :=
  @List.rec MapEntry (fun _ => Nat → List MapEntry) (fun _ => []) (fun x r ih i => match i with
    | 0 => e :: r
    | n + 1 => x :: ih n) l

noncomputable def dropE (l : List MapEntry) : Nat → List MapEntry :=
  @List.rec MapEntry (fun _ => Nat → List MapEntry) (fun _ => []) (fun x r ih i => match i with
    | 0 => r
    | n + 1 => x :: ih n) l

noncomputable def mapTypes (t : TypeId) : Option (TypeId × TypeId) := match P.underlying t with
  | some (.map k e) => some (k, e)
  | _ => none

noncomputable def aMap (σ : St) (k : Nat) : Option (List MapEntry × Nat) := match σ.heap.get k with
  | some (.map es clock) => match σ.cls.get k with
    | none => some (es, clock)
    | some _ => none
  | _ => none

/-- The value with a key, of entries whose order is not known; no two may fit. -/
noncomputable def findU (t : TypeId) (key : Value) (l : List (Value × Value)) : Option (Option Value) :=
  @List.rec (Value × Value) (fun _ => Option (Option Value)) (some none) (fun e _ ih => match keyEq P t key e.1, ih with
    | some false, some r => some r
    | some true, some none => some (some e.2)
    | _, _ => none) l

noncomputable def aBag (σ : St) (k : Nat) : Option (List (Value × Value)) := match σ.heap.get k with
  | some (.bag es) => match σ.cls.get k with
    | none => some es
    | some _ => none
  | _ => none

noncomputable def putBag (σ : St) (k : Nat) (es : List (Value × Value)) : St := { σ with heap := σ.heap.set (.bag es) k }

noncomputable def putMap (σ : St) (k : Nat) (es : List MapEntry) (clock : Nat) : St := { σ with heap := σ.heap.set (.map es clock) k }

def zeroOf (t : TypeId) : Option Value := match P.info? t with
  | some i => i.zero
  | none => none

def okPair (ok : Bool) (v : Value) (b : Bool) : Value := match ok with
  | true => .tuple #[v, .bool b]
  | false => v

noncomputable def eLookup (σ : St) (t : TypeId) (m key : Value) (ok : Bool) : Option ORes := match mapTypes P t with
  | none => none
  | some (kt, et) => match keyOk P kt key, zeroOf P et with
    | true, some z => match plainV z with
      | false => none
      | true => match m with
        | .map none => some (.val (okPair ok z false))
        | .map (some k) => match aMap σ k with
          | none => match aBag σ k with
            | none => none
            | some es => match findU P kt key es with
              | none => none
              | some none => some (.val (okPair ok z false))
              | some (some v) => some (.val (okPair ok v true))
          | some (es, _) => match findE P kt key es 0 with
            | none => none
            | some none => some (.val (okPair ok z false))
            | some (some (_, e)) => some (.val (okPair ok e.val true))
        | _ => none
    | _, _ => none

noncomputable def eUpdate (σ : St) (t : TypeId) (m key x : Value) : Option ORes := match mapTypes P t, m with
  | some (kt, _), .map (some k) => match keyOk P kt key, aMap σ k with
    | true, some (es, clock) => match findE P kt key es 0 with
      | none => none
      | some none => some (.upd undef (putMap σ k (es ++ [{ key, val := x, born := clock }]) (Nat.succ clock)))
      | some (some (i, e)) => match veq e.key key with
        | true => some (.upd undef (putMap σ k (setE { e with val := x } es i) clock))
        | false => none
    | true, none => match aBag σ k with
      | none => none
      | some es => match findU P kt key es with
        | some none => some (.upd undef (putBag σ k (es ++ [(key, x)])))
        | _ => none
    | false, some ([], clock) => match P.underlying kt, key with
      | some (.pointer _), .pointer _ => some (.upd undef (putMap σ k [{ key, val := x, born := clock }] (Nat.succ clock)))
      | _, _ => none
    | _, _ => none
  | _, _ => none

noncomputable def eMapEntry (σ : St) (t : TypeId) (m key : Value) : Option ORes := match mapTypes P t, m with
  | some (kt, et), .map (some k) => match keyOk P kt key, aMap σ k, zeroOf P et with
    | true, some (es, clock), some z => match plainV z with
      | false => none
      | true => match findE P kt key es 0 with
        | none => none
        | some none => some (.upd (.tuple #[z, .int .i64 clock]) (putMap σ k (es ++ [{ key, val := z, born := clock }]) (Nat.succ clock)))
        | some (some (_, e)) => match veq e.key key with
          | true => some (.upd (.tuple #[e.val, .int .i64 e.born]) σ)
          | false => none
    | _, _, _ => none
  | _, _ => none

noncomputable def findBorn (n : Nat) (l : List MapEntry) : Nat → Option (Nat × MapEntry) :=
  @List.rec MapEntry (fun _ => Nat → Option (Nat × MapEntry)) (fun _ => none) (fun e _ ih i => match Nat.beq e.born n with
    | true => some (i, e)
    | false => ih (Nat.succ i)) l

noncomputable def eEntryStore (σ : St) (m stamp x : Value) : Option ORes := match m, stamp with
  | .map (some k), .int _ (.ofNat n) => match aMap σ k with
    | none => none
    | some (es, clock) => match findBorn n es 0 with
      | some (i, e) => some (.upd undef (putMap σ k (setE { e with val := x } es i) clock))
      | none => none
  | _, _ => none

noncomputable def eDelete (σ : St) (t : TypeId) (m key : Value) : Option ORes := match mapTypes P t, m with
  | some (kt, _), .map (some k) => match keyOk P kt key, aMap σ k with
    | true, some (es, clock) => match findE P kt key es 0 with
      | none => none
      | some none => some (.upd (.tuple #[]) (putMap σ k es clock))
      | some (some (i, _)) => some (.upd (.tuple #[]) (putMap σ k (dropE es i) clock))
    | _, _ => none
  | _, _ => none

noncomputable def eRange (t : TypeId) (σ : St) (v : Value) : Option ORes := match P.underlying t, v with
  | some .string, .string s => some (.new (.strIter s) .ptr)
  | some (.map _ _), .map none => some (.new (.mapIter none 0) .ptr)
  | some (.map _ _), .map (some k) => match aMap σ k with
    | some (_, clock) => some (.new (.mapIter (some k) clock) .ptr)
    | none => none
  | _, _ => none

/-- The entries that an iterator has still to come to. -/
noncomputable def leftE (seen : List Nat) (l : List MapEntry) : List MapEntry :=
  @List.rec MapEntry (fun _ => List MapEntry) [] (fun e _ ih => match seen.contains e.born with
    | true => ih
    | false => e :: ih) l

/-- Is an entry there that is older than the iterator's last step? -/
noncomputable def anyOld (last : Nat) (l : List MapEntry) : Bool :=
  @List.rec MapEntry (fun _ => Bool) false (fun e _ ih => @Bool.rec (fun _ => Bool) ih true (Nat.blt e.born last)) l

noncomputable def nextOk (seen : List Nat) (es : List MapEntry) (last : Nat) : Bool := match seen, es with
  | [], _ => true
  | _, [] => true
  | _, _ => anyOld last es

/-- One step of an iterator, where no choice is left. -/
noncomputable def eNext (σ : St) (v : Value) (isString : Bool) : Option ORes := match v with
  | .pointer (some ⟨k, 0, none⟩) => match σ.cls.get k with
    | some _ => none
    | none => match σ.heap.get k, isString with
      | some (.strIter s pos), true => match Nat.blt pos s.data.toList.length with
        | true => some (.upd (.tuple #[.bool true, .int .i64 pos, .int .i32 (Utf8.decode s pos).1]) { σ with heap := σ.heap.set (.strIter s (pos + (Utf8.decode s pos).2)) k })
        | false => some (.val (.tuple #[.bool false]))
      | some (.mapIter none _ _ _), false => some (.val (.tuple #[.bool false]))
      | some (.mapIter (some m) since seen last), false => match aMap σ m with
        | none => none
        | some (es, clock) => match nextOk seen es last, leftE seen es with
          | true, [] => some (.val (.tuple #[.bool false]))
          | true, [e] => match Nat.blt e.born since with
            | true => some (.upd (.tuple #[.bool true, e.key, e.val]) { σ with heap := σ.heap.set (.mapIter (some m) since (seen ++ [e.born]) clock) k })
            | false => none
          | _, _ => none
      | _, _ => none
  | _ => none

noncomputable def eEntry (σ : St) (v : Value) : Option ORes := match v with
  | .pointer (some ⟨k, 0, none⟩) => match σ.heap.get k with
    | some (.mapIter (some m) _ seen stepped) => match aMap σ m, seen.getLast? with
      | some (es, clock), some stamp => match Nat.beq clock stepped, findBorn stamp es 0 with
        | true, some (_, e) => some (.val (.tuple #[e.key, e.val]))
        | _, _ => none
      | _, _ => none
    | _ => none
  | _ => none

noncomputable def eCopy (σ : St) (argTypes : Array TypeId) (d x : Value) : Option ORes := match argTypes[0]? with
  | none => none
  | some st => match sliceElem P st with
    | none => none
    | some elem => match P.info? elem, lenVal x, d with
      | some i, some n, .slice (some ⟨k, off, none⟩) len _ =>
        match srcCells σ i.size (Nat.min n len) x with
        | some [] => some (.val (.int .i64 (Nat.min n len)))
        | some cells => match aStore σ k off cells with
          | some σ' => some (.upd (.int .i64 (Nat.min n len)) σ')
          | none => none
        | none => none
      | some _, some _, .slice none 0 0 => some (.val (.int .i64 0))
      | _, _, _ => none

/-- The bytes of a row. -/
noncomputable def bytesOfL (l : List Value) : Option (List UInt8) :=
  @List.rec Value (fun _ => Option (List UInt8)) (some []) (fun v _ ih => match v with
    | .int .u8 n => match ih with
      | some r => some (UInt8.ofNat n.toNat :: r)
      | none => none
    | _ => none) l

/-- Every place of a class may be frozen from now on. -/
noncomputable def St.markRo (σ : St) (cls k e : Nat) : St := { σ with cls := σ.cls.set { clsAt σ cls k e with ro := true } cls }

/-- unsafe.String over a row of bytes: what it reads is frozen. -/
noncomputable def eString (σ : St) (pt : TypeId) (k off n : Nat) : Option ORes := match P.underlying pt, σ.heap.get k with
  | some (.pointer e), some (.row _ len elem cls pos) => match Nat.beq elem e && Nat.beq (P.cellsOf e) 1 && !(clsAt σ cls k (pos + len)).ro && Nat.ble n 9223372036854775807, aLoad σ k off n with
    | true, some l => match bytesOfL l with
      | some b => some (.upd (.string ⟨b.toArray⟩) (σ.markRo cls k (pos + len)))
      | none => none
    | _, _ => none
  | _, _ => none

/-- clear, of a slice: its elements are zero. -/
noncomputable def eClear (σ : St) (argTypes : Array TypeId) (x : Value) : Option ORes := match argTypes[0]? with
  | none => none
  | some st => match sliceElem P st, x with
    | some _, .slice none 0 0 => some (.val (.tuple #[]))
    | some elem, .slice (some ⟨k, off, none⟩) (m + 1) _ => match zeroCellsOf P elem with
      | some z => match aStore σ k off (repL z (m + 1)) with
        | some σ' => some (.upd (.tuple #[]) σ')
        | none => none
      | none => none
    | _, _ => none

noncomputable def eBuiltin (σ : St) (T : Tr Value) (o : Oper) (b : Builtin) (argTypes : Array TypeId) (args : List Value) : Option ORes := match b with
  | .append => match args with
    | [s, x] => aAppend P σ argTypes s x
    | _ => none
  | .len => match argTypes[0]?, args with
    | some t, [.slice _ n _] => match P.underlying t with
      | some (.slice _) => some (.val (.int .i64 n))
      | _ => none
    | some t, [.string s] => match P.underlying t with
      | some .string => some (.val (.int .i64 s.data.toList.length))
      | _ => none
    | some t, [.map none] => match P.underlying t with
      | some (.map _ _) => some (.val (.int .i64 0))
      | _ => none
    | some t, [.map (some k)] => match P.underlying t, aMap σ k with
      | some (.map _ _), some (es, _) => some (.val (.int .i64 es.length))
      | _, _ => none
    | _, _ => eGeneric P σ T o
  | .cap => match argTypes[0]?, args with
    | some t, [.slice _ _ c] => match P.underlying t, Nat.blt c unk with
      | some (.slice _), true => some (.val (.int .i64 c))
      | _, _ => none
    | _, _ => none
  | .copy => match args with
    | [d, x] => eCopy P σ argTypes d x
    | _ => none
  | .delete => match argTypes[0]?, args with
    | some t, [m, key] => eDelete P σ t m key
    | _, _ => none
  | .clear => match args with
    | [x] => eClear P σ argTypes x
    | _ => none
  | .max => eGeneric P σ T o
  | .min => eGeneric P σ T o
  | .unsafeSliceData => match args with
    | [.slice none _ _] => some (.val (.pointer none))
    | [.slice (some a) len _] => match Nat.blt 0 len with
      | true => some (.val (.pointer (some a)))
      | false => none
    | _ => none
  | .unsafeString => match argTypes[0]?, args with
    | some pt, [.pointer q, .int _ (.ofNat n)] => match n with
      | 0 => some (.val (.string ⟨⟨[]⟩⟩))
      | m + 1 => match q with
        | some ⟨b, off, none⟩ => eString P σ pt b off (m + 1)
        | _ => none
    | _, _ => none
  | _ => none

/-- A method of an interface's value: of a pointer, by the pointer's own type. -/
noncomputable def eInvoke (σ : St) (T : Tr Value) (r : Operand) (name : String) (args : List Value) : Option ORes := match opd σ T r with
  | some (.iface t (.pointer p)) => match P.info? t, P.underlying t with
    | some i, some (.pointer _) => match i.methods.toList.find? (fun m => m.name == name) with
      | some m => match m.path.toList, m.func with
        | [], some (f, true) => some (.call f (.pointer p :: args))
        | _, _ => none
      | none => none
    | _, _ => none
  | _ => none

noncomputable def eCall (σ : St) (T : Tr Value) (o : Oper) (c : Call) : Option ORes := match opds σ T c.args.toList with
  | none => none
  | some args => match c.callee with
    | .builtin b => eBuiltin P σ T o b c.argTypes args
    | .value f => match opd σ T f with
      | some (.func (.func g) first captured) => some (.call g (first.toList ++ (args ++ captured.toList)))
      | _ => none
    | .invoke r name => eInvoke P σ T r name args

/-- A pointer made unsafe, or safe again, over a row. -/
noncomputable def eUnsafe (σ : St) (src dst : TypeId) (k off : Nat) : Option ORes := match P.underlying src, P.underlying dst, σ.heap.get k with
  | some (.pointer t), some .unsafePointer, some (.row _ len _ cls _) => match P.info? t with
    | some i => match σ.valid k cls && Nat.blt off len && !(Nat.beq i.size 0) with
      | true => some (.val (.pointer (some ⟨k, off, none⟩)))
      | false => none
    | none => none
  | some .unsafePointer, some (.pointer u), some (.row _ len elem cls pos) => match P.info? u with
    | some _ => match σ.valid k cls && Nat.beq pos 0 && liesAt P P.depth elem (len / P.cellsOf elem) off u 1 with
      | true => some (.val (.pointer (some ⟨k, off, none⟩)))
      | false => none
    | none => none
  | _, _, _ => none

/-- Conversions: of a string into bytes, of bytes into a string, else upon values without addresses. -/
noncomputable def eConvert (σ : St) (T : Tr Value) (o : Oper) (src dst : TypeId) (v : Value) : Option ORes := match v with
  | .string s => match P.underlying src, P.underlying dst with
    | some _, some (.slice e) => match P.underlying e with
      | some (.int .u8) => match Nat.beq (P.cellsOf e) 1 with
        | true => some (.new (.row (s.data.toList.map fun b => .int .u8 b.toNat) e) (.slice s.data.toList.length unk))
        | false => none
      | _ => none
    | _, _ => eGeneric P σ T o
  | .slice (some ⟨k, off, none⟩) len _ => match P.underlying src, P.underlying dst with
    | some (.slice e), some .string => match P.underlying e with
      | some (.int .u8) => match aLoad σ k off len with
        | some l => match bytesOfL l with
          | some b => some (.val (.string ⟨b.toArray⟩))
          | none => none
        | none => none
      | _ => none
    | _, _ => none
  | .pointer (some ⟨k, off, none⟩) => eUnsafe P σ src dst k off
  | _ => eGeneric P σ T o

noncomputable def evalOp (σ : St) (T : Tr Value) (o : Oper) : Option ORes := match o.op with
  | .move x => match opd σ T x with
    | some v => some (.val v)
    | none => none
  | .assign x => match opd σ T x with
    | some v => some (.val v)
    | none => none
  | .pick c a b => match opd σ T c, opd σ T a, opd σ T b with
    | some (.bool true), some v, _ => some (.val v)
    | some (.bool false), _, some v => some (.val v)
    | _, _, _ => none
  | .alloc e => match zeroCellsOf P e with
    | some z => some (.new (.row z e) .ptr)
    | none => none
  | .box e x => match opd σ T x with
    | some v => some (.new (.row v.cells.toList e) .ptr)
    | none => none
  | .build t parts => eBuild P σ T t parts.toList
  | .buildSlice t len parts => eBuildSlice P σ T t len parts.toList
  | .load t a => match opd σ T a with
    | some v => eLoad P σ t v
    | none => none
  | .store t a x => match opd σ T a, opd σ T x with
    | some v, some x => eStore P σ t v x
    | _, _ => none
  | .nilCheck x => match opd σ T x with
    | some (.pointer (some a)) => some (.val (.pointer (some a)))
    | some (.func (.func f) a b) => some (.val (.func (.func f) a b))
    | _ => none
  | .binOp op t x y _ => eBin P σ T o op t x y
  | .unOp .not _ x => match opd σ T x with
    | some (.bool b) => some (.val (.bool (!b)))
    | _ => none
  | .makeFunc (.func f) first captured => match opds σ T first.toList, opds σ T captured.toList with
    | some a, some b => some (.val (.func (.func f) a.toArray b.toArray))
    | _, _ => none
  | .makeMap t none => match P.underlying t with
    | some _ => some (.new .map .map)
    | none => none
  | .makeSlice t l c => match opd σ T l, opd σ T c with
    | some l, some c => eMakeSlice P t l c
    | _, _ => none
  | .slice t x lo hi mx => match opd σ T x with
    | some v => eSlice P σ T t v lo hi mx
    | none => none
  | .fieldAddr s x f => match opd σ T x with
    | some v => eFieldAddr P s v f
    | none => none
  | .field t x f => match opd σ T x with
    | some v => eField P t v f
    | none => none
  | .indexAddr t x i => match opd σ T x, opd σ T i with
    | some v, some i => eIndexAddr P t v i
    | _, _ => none
  | .index t x i => match opd σ T x, opd σ T i with
    | some v, some i => eIndex P σ T o t v i
    | _, _ => none
  | .lookup t x i ok => match opd σ T x, opd σ T i with
    | some m, some key => eLookup P σ t m key ok
    | _, _ => none
  | .mapUpdate t m k x => match opd σ T m, opd σ T k, opd σ T x with
    | some m, some key, some x => eUpdate P σ t m key x
    | _, _, _ => none
  | .insert t m k x => match opd σ T m, opd σ T k, opd σ T x with
    | some m, some key, some x => eUpdate P σ t m key x
    | _, _, _ => none
  | .mapEntry t m k => match opd σ T m, opd σ T k with
    | some m, some key => eMapEntry P σ t m key
    | _, _ => none
  | .entryStore _ m s x => match opd σ T m, opd σ T s, opd σ T x with
    | some m, some s, some x => eEntryStore σ m s x
    | _, _, _ => none
  | .range t x => match opd σ T x with
    | some v => eRange P t σ v
    | none => none
  | .next it isString => match opd σ T it with
    | some v => eNext σ v isString
    | none => none
  | .entry it => match opd σ T it with
    | some v => eEntry σ v
    | none => none
  | .extract x i => match opd σ T x with
    | some (.tuple vs) => match lget vs.toList i with
      | some v => some (.val v)
      | none => none
    | _ => none
  | .makeInterface t x => match P.underlying t, opd σ T x with
    | some (.interface _), _ => none
    | some _, some v => some (.val (.iface t v))
    | _, _ => none
  | .call c => eCall P σ T o c
  | .convert src dst x => match opd σ T x with
    | some v => eConvert P σ T o src dst v
    | none => none
  | .select _ _ => none
  | _ => eGeneric P σ T o

/-! ### The same, each operation's part by a name of its own: what the kernel copies at a step stays small -/

noncomputable def kMove (σ : St) (T : Tr Value) (x : Operand) : Option ORes := match opd σ T x with
  | some v => some (.val v)
  | none => none
noncomputable def kPick (σ : St) (T : Tr Value) (c a b : Operand) : Option ORes := match opd σ T c, opd σ T a, opd σ T b with
  | some (.bool true), some v, _ => some (.val v)
  | some (.bool false), _, some v => some (.val v)
  | _, _, _ => none
noncomputable def kAlloc (e : TypeId) : Option ORes := match zeroCellsOf P e with
  | some z => some (.new (.row z e) .ptr)
  | none => none
noncomputable def kBox (σ : St) (T : Tr Value) (e : TypeId) (x : Operand) : Option ORes := match opd σ T x with
  | some v => some (.new (.row v.cells.toList e) .ptr)
  | none => none
noncomputable def kBuild (σ : St) (T : Tr Value) (t : TypeId) (parts : Array (Nat × Operand)) : Option ORes := eBuild P σ T t parts.toList
noncomputable def kBuildSlice (σ : St) (T : Tr Value) (t : TypeId) (len : Nat) (parts : Array (Nat × Operand)) : Option ORes := eBuildSlice P σ T t len parts.toList
noncomputable def kLoad (σ : St) (T : Tr Value) (t : TypeId) (a : Operand) : Option ORes := match opd σ T a with
  | some v => eLoad P σ t v
  | none => none
noncomputable def kStore (σ : St) (T : Tr Value) (t : TypeId) (a x : Operand) : Option ORes := match opd σ T a, opd σ T x with
  | some v, some x => eStore P σ t v x
  | _, _ => none
noncomputable def kNilCheck (σ : St) (T : Tr Value) (x : Operand) : Option ORes := match opd σ T x with
  | some (.pointer (some a)) => some (.val (.pointer (some a)))
  | some (.func (.func f) a b) => some (.val (.func (.func f) a b))
  | _ => none
noncomputable def kBin (σ : St) (T : Tr Value) (o : Oper) (op : BinOp) (t : TypeId) (x y : Operand) (_ : TypeId) : Option ORes := eBin P σ T o op t x y
noncomputable def kUn (σ : St) (T : Tr Value) (o : Oper) (op : UnOp) (_ : TypeId) (x : Operand) : Option ORes := match op with
  | .not => match opd σ T x with
    | some (.bool b) => some (.val (.bool (!b)))
    | _ => none
  | _ => eGeneric P σ T o
noncomputable def kFunc (σ : St) (T : Tr Value) (o : Oper) (fn : Fn) (first captured : Array Operand) : Option ORes := match fn with
  | .func f => match opds σ T first.toList, opds σ T captured.toList with
    | some a, some b => some (.val (.func (.func f) a.toArray b.toArray))
    | _, _ => none
  | _ => eGeneric P σ T o
noncomputable def kMap (σ : St) (T : Tr Value) (o : Oper) (t : TypeId) (r : Option Operand) : Option ORes := match r with
  | none => match P.underlying t with
    | some _ => some (.new .map .map)
    | none => none
  | some _ => eGeneric P σ T o
noncomputable def kMakeSlice (σ : St) (T : Tr Value) (t : TypeId) (l c : Operand) : Option ORes := match opd σ T l, opd σ T c with
  | some l, some c => eMakeSlice P t l c
  | _, _ => none
noncomputable def kSlice (σ : St) (T : Tr Value) (t : TypeId) (x : Operand) (lo hi mx : Option Operand) : Option ORes := match opd σ T x with
  | some v => eSlice P σ T t v lo hi mx
  | none => none
noncomputable def kFieldAddr (σ : St) (T : Tr Value) (s : TypeId) (x : Operand) (f : Nat) : Option ORes := match opd σ T x with
  | some v => eFieldAddr P s v f
  | none => none
noncomputable def kField (σ : St) (T : Tr Value) (t : TypeId) (x : Operand) (f : Nat) : Option ORes := match opd σ T x with
  | some v => eField P t v f
  | none => none
noncomputable def kIndexAddr (σ : St) (T : Tr Value) (t : TypeId) (x i : Operand) : Option ORes := match opd σ T x, opd σ T i with
  | some v, some i => eIndexAddr P t v i
  | _, _ => none
noncomputable def kIndex (σ : St) (T : Tr Value) (o : Oper) (t : TypeId) (x i : Operand) : Option ORes := match opd σ T x, opd σ T i with
  | some v, some i => eIndex P σ T o t v i
  | _, _ => none
noncomputable def kLookup (σ : St) (T : Tr Value) (t : TypeId) (x i : Operand) (ok : Bool) : Option ORes := match opd σ T x, opd σ T i with
  | some m, some key => eLookup P σ t m key ok
  | _, _ => none
noncomputable def kUpdate (σ : St) (T : Tr Value) (t : TypeId) (m k x : Operand) : Option ORes := match opd σ T m, opd σ T k, opd σ T x with
  | some m, some key, some x => eUpdate P σ t m key x
  | _, _, _ => none
noncomputable def kMapEntry (σ : St) (T : Tr Value) (t : TypeId) (m k : Operand) : Option ORes := match opd σ T m, opd σ T k with
  | some m, some key => eMapEntry P σ t m key
  | _, _ => none
noncomputable def kEntryStore (σ : St) (T : Tr Value) (_ : TypeId) (m s x : Operand) : Option ORes := match opd σ T m, opd σ T s, opd σ T x with
  | some m, some s, some x => eEntryStore σ m s x
  | _, _, _ => none
noncomputable def kRange (σ : St) (T : Tr Value) (t : TypeId) (x : Operand) : Option ORes := match opd σ T x with
  | some v => eRange P t σ v
  | none => none
noncomputable def kNext (σ : St) (T : Tr Value) (it : Operand) (isString : Bool) : Option ORes := match opd σ T it with
  | some v => eNext σ v isString
  | none => none
noncomputable def kEntry (σ : St) (T : Tr Value) (it : Operand) : Option ORes := match opd σ T it with
  | some v => eEntry σ v
  | none => none
noncomputable def kExtract (σ : St) (T : Tr Value) (x : Operand) (i : Nat) : Option ORes := match opd σ T x with
  | some (.tuple vs) => match lget vs.toList i with
    | some v => some (.val v)
    | none => none
  | _ => none
noncomputable def kIface (σ : St) (T : Tr Value) (t : TypeId) (x : Operand) : Option ORes := match P.underlying t, opd σ T x with
  | some (.interface _), _ => none
  | some _, some v => some (.val (.iface t v))
  | _, _ => none
noncomputable def kConvert (σ : St) (T : Tr Value) (o : Oper) (src dst : TypeId) (x : Operand) : Option ORes := match opd σ T x with
  | some v => eConvert P σ T o src dst v
  | none => none

noncomputable def evalOpK (σ : St) (T : Tr Value) (o : Oper) : Option ORes :=
  @Op.rec (fun _ => Option ORes) (kMove σ T) (kMove σ T) (kPick σ T) (kAlloc P) (kBox σ T) (kBuild P σ T) (kBuildSlice P σ T) (kUpdate P σ T) (kLoad P σ T) (kStore P σ T)
    (fun _ => eGeneric P σ T o) (fun _ => eGeneric P σ T o) (kNilCheck σ T) (kBin P σ T o) (kUn P σ T o) (kConvert P σ T o) (fun _ _ => eGeneric P σ T o) (kIface P σ T) (kFunc P σ T o) (kMap P σ T o)
    (fun _ _ => eGeneric P σ T o) (kMakeSlice P σ T) (kSlice P σ T) (kFieldAddr P σ T) (kField P σ T) (kIndexAddr P σ T) (kIndex P σ T o) (kLookup P σ T) (kUpdate P σ T) (kMapEntry P σ T) (kEntryStore σ T)
    (kRange P σ T) (kNext σ T) (kEntry σ T) (fun _ _ _ _ => eGeneric P σ T o) (kExtract σ T) (eCall P σ T o) (fun _ => eGeneric P σ T o) (fun _ => eGeneric P σ T o) (fun _ => eGeneric P σ T o) (fun _ _ => eGeneric P σ T o)
    (fun _ _ _ => eGeneric P σ T o) (fun _ _ => none) o.op

theorem evalOpK_eq (σ : St) (T : Tr Value) (o : Oper) : evalOpK P σ T o = evalOp P σ T o := by
  obtain ⟨dst, op, type, pos, after, guard⟩ := o
  cases op with
  | unOp op t x => cases op <;> rfl
  | makeFunc fn a b => cases fn <;> rfl
  | makeMap t r => cases r <;> rfl
  | _ => rfl

end
end Go.Ke
