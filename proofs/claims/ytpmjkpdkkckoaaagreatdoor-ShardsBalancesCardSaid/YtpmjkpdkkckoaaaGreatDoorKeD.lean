/- The abstract run: regions, code, calls. Definitions alone. -/
import Derived.Test.YtpmjkpdkkckoaaaGreatDoorKeC
namespace Go.Ke

inductive AEx where
  | normal
  | exit (id : Nat)
  | ret

/-- Calls that leave all that was there as it was, and hand back a value without addresses: by their numbers, what they hand back. -/
class Quiet where
  qs : FuncId → Option (List Value → Option Value)

/-- A slot is written: it must be one of the frame's. -/
noncomputable def putT (n : Nat) (T : Tr Value) (dst : Option Nat) (v : Value) : Option (Tr Value) := match dst with
  | none => some T
  | some d => match Nat.blt d n with
    | true => some (T.set v d)
    | false => none

noncomputable def guardOk (ops : Array Oper) (T : Tr Value) (g : Option (Nat × Bool)) : Bool := match g with
  | none => true
  | some (j, want) => match lget ops.toList j with
    | some o => match o.dst with
      | some d => match tmpOf T d with
        | .bool b => b == want
        | _ => false
      | none => false
    | none => false

section
variable [Quiet]

/-- Operations that change nothing but their slot. -/
def floats : Op → Bool
  | .move _ => true
  | .assign _ => true
  | .pick _ _ _ => true
  | .build _ _ => true
  | .load _ _ => true
  | .nilCheck _ => true
  | .binOp _ _ _ _ _ => true
  | .unOp _ _ _ => true
  | .makeFunc _ _ _ => true
  | .slice _ _ _ _ _ => true
  | .fieldAddr _ _ _ => true
  | .field _ _ _ => true
  | .indexAddr _ _ _ => true
  | .index _ _ _ => true
  | .lookup _ _ _ _ => true
  | .entry _ => true
  | .extract _ _ => true
  | .makeInterface _ _ => true
  | .convert _ _ _ => true
  | .call c => match c.callee with
    | .builtin .len => true
    | .builtin .cap => true
    | .builtin .max => true
    | .builtin .min => true
    | .value (.func f) => (Quiet.qs f).isSome
    | _ => false
  | _ => false

end

/-- The slots that an operation looks at. -/
noncomputable def namesOf (ops : Array Oper) (o : Oper) : List Nat :=
  @List.rec Operand (fun _ => List Nat) (match o.guard with
    | none => []
    | some (j, _) => match lget ops.toList j with
      | some g => match g.dst with
        | some d => [d]
        | none => []
      | none => []) (fun x _ ih => match x with
    | .tmp t => t :: ih
    | _ => ih) o.op.operands.toList

noncomputable def hasNat (n : Nat) (l : List Nat) : Bool :=
  @List.rec Nat (fun _ => Bool) false (fun x _ ih => @Bool.rec (fun _ => Bool) ih true (Nat.beq x n)) l

/-- What stands ahead of each operation, as the set of its places' powers of two. -/
noncomputable def aheadOf (l : List Oper) : List Nat → List Nat :=
  @List.rec Oper (fun _ => List Nat → List Nat) (fun acc => acc) (fun o _ ih acc =>
    ih (acc ++ [@List.rec Edge (fun _ => Nat) 0 (fun e _ s => match Region.binds .any e with
      | true => Nat.lor s (Nat.lor (2 ^ e.on) (match lget acc e.on with
        | some m => m
        | none => 0))
      | false => s) o.after.toList])) l

/-- What is asked of a region that draws: of each operation its place, its slots, what stands ahead of it, is it heavy. -/
structure RInfo where
  i : Nat
  o : Oper
  names : List Nat
  ahead : Nat
  heavy : Bool

noncomputable def conflict (i : Nat) (d : Nat) (l : List Oper) (ops : Array Oper) : Nat → Bool :=
  @List.rec Oper (fun _ => Nat → Bool) (fun _ => false) (fun o _ ih j => match Nat.beq i j with
    | true => ih (Nat.succ j)
    | false => match (match o.dst with
        | some d' => Nat.beq d d'
        | none => false) || (Nat.blt j i && hasNat d (namesOf ops o)) with
      | true => true
      | false => ih (Nat.succ j)) l

section
variable [Quiet]

noncomputable def isHeavy (ops : Array Oper) (i : Nat) (o : Oper) : Bool := match floats o.op with
  | false => true
  | true => match o.dst with
    | none => false
    | some d => match hasNat d (namesOf ops o) with
      | true => true
      | false => conflict i d ops.toList ops 0

noncomputable def infos (ops : Array Oper) (ah : List Nat) (l : List Oper) : Nat → List RInfo :=
  @List.rec Oper (fun _ => Nat → List RInfo) (fun _ => []) (fun o _ ih i =>
    { i, o, names := namesOf ops o, ahead := (match lget ah i with
      | some m => m
      | none => 0), heavy := isHeavy ops i o } :: ih (Nat.succ i)) l

noncomputable def infosOf (ops : Array Oper) : List RInfo := infos ops (aheadOf ops.toList []) ops.toList 0

end

noncomputable def allInfo (p : RInfo → Bool) (l : List RInfo) : Bool :=
  @List.rec RInfo (fun _ => Bool) true (fun x _ ih => @Bool.rec (fun _ => Bool) false ih (p x)) l

noncomputable def edgesBack (i : Nat) (l : List Edge) : Bool :=
  @List.rec Edge (fun _ => Bool) true (fun e _ ih => match Region.binds .any e with
    | true => @Bool.rec (fun _ => Bool) false ih (Nat.blt e.on i)
    | false => ih) l

/-- The slots' dependences lie in the order: whoever writes a slot that another looks at stands ahead of it, or is heavy and stands behind it. -/
noncomputable def regionOk (l : List RInfo) : Bool :=
  allInfo (fun x => edgesBack x.i x.o.after.toList && allInfo (fun y => match y.heavy with
    | true => true
    | false => match y.o.dst with
      | none => true
      | some d => match hasNat d x.names with
        | false => true
        | true => x.ahead.testBit y.i) l) l

section
variable (P : Program)

noncomputable def allPlainV (l : List Value) : Bool := @List.rec Value (fun _ => Bool) true (fun v _ ih => @Bool.rec (fun _ => Bool) false ih (plainV v)) l

section
variable [Quiet]

noncomputable def quietVal (f : FuncId) (args : List Value) : Option Value := match Quiet.qs f, allPlainV args with
  | some g, true => match g args with
    | some v => match plainV v with
      | true => some v
      | false => none
    | none => none
  | _, _ => none

/-- An operation that changes nothing but its slot; where its guard says no, its slot holds nothing. -/
noncomputable def floatEval (σ : St) (T : Tr Value) (ops : Array Oper) (o : Oper) : Option Value := match guardOk ops T o.guard with
  | false => some undef
  | true => match evalOpK P σ T o with
    | some (.val v) => some v
    | some (.call f args) => quietVal f args
    | _ => none

end

/-- Any operation. -/
noncomputable def opRun (self : FuncId → List Value → St → Option (Value × St)) (n : Nat) (ops : Array Oper) (o : Oper) (T : Tr Value) (σ : St) : Option (Tr Value × St) :=
  match guardOk ops T o.guard with
  | false => match putT n T o.dst undef with
    | some T' => some (T', σ)
    | none => none
  | true => match evalOpK P σ T o with
    | some (.val v) => match putT n T o.dst v with
      | some T' => some (T', σ)
      | none => none
    | some (.new b mk) => match putT n T o.dst (mk.val σ.next) with
      | some T' => some (T', σ.put (b.obj σ.next))
      | none => none
    | some (.upd v σ') => match putT n T o.dst v with
      | some T' => some (T', σ')
      | none => none
    | some (.call f args) => match self f args σ with
      | some (v, σ') => match putT n T o.dst v with
        | some T' => some (T', σ')
        | none => none
      | none => none
    | _ => none

/-- The deferred calls as they were. -/
noncomputable def St.keepD (σ : St) (d : List Value) : St := { σ with dfr := d }

/-- A call that is deferred: the function value with its arguments ahead. -/
noncomputable def deferred (σ : St) (T : Tr Value) (c : Call) : Option Value := match c.callee with
  | .value f => match opd σ T f, opds σ T c.args.toList with
    | some (.func (.func g) first captured), some args => some (.func (.func g) (first.toList ++ args).toArray captured)
    | _, _ => none
  | _ => none

def isDefer : Op → Option Call
  | .defer c => some c
  | _ => none

/-- A region in the order of the text. -/
noncomputable def seqRun (self : FuncId → List Value → St → Option (Value × St)) (n : Nat) (ops : Array Oper) (l : List Oper) : Tr Value → St → Option (Tr Value × St) :=
  @List.rec Oper (fun _ => Tr Value → St → Option (Tr Value × St)) (fun T σ => some (T, σ)) (fun o _ ih T σ => match isDefer o.op with
    | none => match opRun P self n ops o T σ with
      | some (T', σ') => ih T' (σ'.keepD σ.dfr)
      | none => none
    | some c => match o.guard, deferred σ T c with
      | none, some v => match putT n T o.dst undef with
        | some T' => ih T' (σ.keepD (v :: σ.dfr))
        | none => none
      | _, _ => none) l

section
variable [Quiet]

/-- What has been done, by places' powers of two; who may still float: the operation and its value. 'born': it makes a new block, of this number. -/
structure Flo where
  x : RInfo
  v : Value
  born : Option (Nat × Born)

noncomputable def edgesIn (D : Nat) (l : List Edge) : Bool :=
  @List.rec Edge (fun _ => Bool) true (fun e _ ih => match Region.binds .any e with
    | true => @Bool.rec (fun _ => Bool) false ih (D.testBit e.on)
    | false => ih) l

/-- One pass: all that is ready and floats is done; who is ready and heavy is told. -/
noncomputable def satRun (n : Nat) (ops : Array Oper) (σ : St) (l : List RInfo) : Nat → Tr Value → List Flo → List RInfo → Option (Nat × Tr Value × List Flo × List RInfo) :=
  @List.rec RInfo (fun _ => Nat → Tr Value → List Flo → List RInfo → Option (Nat × Tr Value × List Flo × List RInfo)) (fun D T H hv => some (D, T, H, hv))
    (fun x _ ih D T H hv => match D.testBit x.i with
      | true => ih D T H hv
      | false => match edgesIn D x.o.after.toList with
        | false => ih D T H hv
        | true => match x.heavy with
          | true => ih D T H (x :: hv)
          | false => match floatEval P σ T ops x.o with
            | none => none
            | some v => match putT n T x.o.dst v with
              | none => none
              | some T' => ih (Nat.lor D (2 ^ x.i)) T' ({ x, v, born := none } :: H) hv) l

/-- Two new blocks, to the letter. -/
noncomputable def bornEq : Born → Born → Bool
  | .row a e, .row b e' => Nat.beq e e' && veqL a b
  | .map, .map => true
  | _, _ => false

/-- An operation that makes a new block. -/
noncomputable def bornEval (σ : St) (T : Tr Value) (ops : Array Oper) (o : Oper) : Option (Born × Mk) := match guardOk ops T o.guard with
  | false => none
  | true => match evalOpK P σ T o with
    | some (.new b mk) => some (b, mk)
    | _ => none

noncomputable def slotIs (T : Tr Value) (f : Flo) : Bool := match f.x.o.dst with
  | none => true
  | some d => veq (tmpOf T d) f.v

noncomputable def floIs (σ : St) (T : Tr Value) (ops : Array Oper) (f : Flo) : Bool := match f.born with
  | none => match floatEval P σ T ops f.x.o with
    | none => false
    | some v => veq v f.v && slotIs T f
  | some (k, b) => match bornEval P σ T ops f.x.o with
    | none => false
    | some (b', mk) => bornEq b' b && (veq (mk.val k) f.v && slotIs T f)

/-- All that may still float comes to the same, here too. -/
noncomputable def recheck (σ : St) (T : Tr Value) (ops : Array Oper) (H : List Flo) : Bool :=
  @List.rec Flo (fun _ => Bool) true (fun f _ ih => @Bool.rec (fun _ => Bool) false ih (floIs P σ T ops f)) H

noncomputable def keepFlo (h : RInfo) (H : List Flo) : List Flo :=
  @List.rec Flo (fun _ => List Flo) [] (fun f _ ih => match h.ahead.testBit f.x.i with
    | true => ih
    | false => f :: ih) H

/-- A block that is still to come lies in the abstract heap as it was born. -/
noncomputable def bornIs (σ : St) (k : Nat) (b : Born) : Bool := match σ.cls.get k, σ.heap.get k with
  | none, some (.row cells len elem cls pos) => match b with
    | .row l e => Nat.beq len l.length && Nat.beq elem e && Nat.beq cls k && Nat.beq pos 0 && (match readTr cells len 0 with
      | some l' => veqL l' l
      | none => false)
    | _ => false
  | none, some (.map es c) => match b, es, c with
    | .map, [], 0 => true
    | _, _, _ => false
  | _, _ => false

/-- No new block is still to come. -/
noncomputable def noBorn (H : List Flo) : Bool :=
  @List.rec Flo (fun _ => Bool) true (fun f _ ih => match f.born with
    | none => ih
    | some _ => false) H

noncomputable def keptBorn (σ : St) (H : List Flo) : Bool :=
  @List.rec Flo (fun _ => Bool) true (fun f _ ih => match f.born with
    | none => ih
    | some (k, b) => @Bool.rec (fun _ => Bool) false ih (bornIs σ k b)) H

/-- Whoever looks at the slot stands behind. -/
noncomputable def readOk (l : List RInfo) (h : RInfo) : Bool := allInfo (fun x => match h.o.dst with
  | none => true
  | some d => match hasNat d x.names with
    | false => true
    | true => x.ahead.testBit h.i) l

/-- New blocks, in whatever order: their numbers are given out in this one. -/
noncomputable def bornRun (n : Nat) (ops : Array Oper) (l hv : List RInfo) : Nat → Tr Value → St → List Flo → Option (Nat × Tr Value × St × List Flo) :=
  @List.rec RInfo (fun _ => Nat → Tr Value → St → List Flo → Option (Nat × Tr Value × St × List Flo)) (fun D T σ H => some (D, T, σ, H)) (fun h _ ih D T σ H => match readOk l h with
    | false => none
    | true => match bornEval P σ T ops h.o with
      | none => none
      | some (b, mk) => match putT n T h.o.dst (mk.val σ.next) with
        | none => none
        | some T' => ih (Nat.lor D (2 ^ h.i)) T' (σ.put (b.obj σ.next)) ({ x := h, v := mk.val σ.next, born := some (σ.next, b) } :: H)) hv

/-- Those that make new blocks. -/
noncomputable def bornsOf (σ : St) (T : Tr Value) (ops : Array Oper) (l : List RInfo) : List RInfo :=
  @List.rec RInfo (fun _ => List RInfo) [] (fun x _ ih => match bornEval P σ T ops x.o with
    | some _ => x :: ih
    | none => ih) l

def alone : List RInfo → Bool
  | [] => true
  | _ :: _ => false

noncomputable def allDone (D : Nat) (l : List RInfo) : Bool :=
  @List.rec RInfo (fun _ => Bool) true (fun x _ ih => @Bool.rec (fun _ => Bool) false ih (D.testBit x.i)) l

/-! Inserts into a fresh map, in whatever order. -/

/-- The operation, its key, its value. -/
structure InsZ where
  x : RInfo
  key : Value
  val : Value

noncomputable def insHead (σ : St) (T : Tr Value) (x : RInfo) : Option (TypeId × Nat) := match x.o.op with
  | .insert t m _ _ => match mapTypes P t, opd σ T m with
    | some (kt, _), some (.map (some id)) => some (kt, id)
    | _, _ => none
  | _ => none

noncomputable def insOne (σ : St) (T : Tr Value) (kt : TypeId) (id : Nat) (x : RInfo) : Option InsZ := match x.o.guard, x.o.dst, x.o.op with
  | none, none, .insert t m k v => match mapTypes P t, opd σ T m, opd σ T k, opd σ T v with
    | some (kt', _), some (.map (some id')), some key, some val => match Nat.beq kt' kt && Nat.beq id' id && keyOk P kt key with
      | true => some ⟨x, key, val⟩
      | false => none
    | _, _, _, _ => none
  | _, _, _ => none

noncomputable def insAll (σ : St) (T : Tr Value) (kt : TypeId) (id : Nat) (l : List RInfo) : Option (List InsZ) :=
  @List.rec RInfo (fun _ => Option (List InsZ)) (some []) (fun x _ ih => match insOne P σ T kt id x, ih with
    | some z, some r => some (z :: r)
    | _, _ => none) l

noncomputable def fitsNot (kt : TypeId) (z y : InsZ) : Bool := !(Nat.beq z.x.i y.x.i) && (match keyEq P kt z.key y.key, keyEq P kt y.key z.key with
  | some false, some false => true
  | _, _ => false)

noncomputable def apart1 (kt : TypeId) (z : InsZ) (l : List InsZ) : Bool := @List.rec InsZ (fun _ => Bool) true (fun y _ ih => @Bool.rec (fun _ => Bool) false ih (fitsNot P kt z y)) l

noncomputable def apart (kt : TypeId) (l : List InsZ) : Bool := @List.rec InsZ (fun _ => Bool) true (fun z r ih => @Bool.rec (fun _ => Bool) false ih (apart1 P kt z r)) l

noncomputable def isIns (i : Nat) (l : List InsZ) : Bool := @List.rec InsZ (fun _ => Bool) false (fun z _ ih => @Bool.rec (fun _ => Bool) ih true (Nat.beq i z.x.i)) l

noncomputable def allAhead (y : RInfo) (l : List InsZ) : Bool := @List.rec InsZ (fun _ => Bool) true (fun z _ ih => @Bool.rec (fun _ => Bool) false ih (y.ahead.testBit z.x.i)) l

def kvs (l : List InsZ) : List (Value × Value) := l.map fun z => (z.key, z.val)

noncomputable def subs (l : List InsZ) : List (List InsZ) := @List.rec InsZ (fun _ => List (List InsZ)) [[]] (fun z _ ih => ih ++ ih.map (z :: ·)) l

noncomputable def allSubs (p : List InsZ → Bool) (l : List (List InsZ)) : Bool := @List.rec (List InsZ) (fun _ => Bool) true (fun z _ ih => @Bool.rec (fun _ => Bool) false ih (p z)) l

noncomputable def orBits (D : Nat) (l : List InsZ) : Nat := @List.rec InsZ (fun _ => Nat) D (fun z _ ih => Nat.lor ih (2 ^ z.x.i)) l

/-- All of them at once; all that is not yet done must stand behind all of them, and all that may still float comes to the same whichever of them have been done. -/
noncomputable def insRun (ops : Array Oper) (l : List RInfo) (hv : List RInfo) (D : Nat) (T : Tr Value) (σ : St) (H : List Flo) : Option (Nat × St) := match hv with
  | [] => none
  | x :: _ => match insHead P σ T x with
    | none => none
    | some (kt, id) => match insAll P σ T kt id hv, aMap σ id with
      | some zs, some ([], _) => match (apart P kt zs && noBorn H) && (allInfo (fun y => (D.testBit y.i || isIns y.i zs) || allAhead y zs) l && allSubs (fun S => recheck P (putBag σ id (kvs S)) T ops H) (subs zs)) with
        | true => some (orBits D zs, putBag σ id (kvs zs))
        | false => none
      | _, _ => none

/-- A region that draws: pass by pass, one heavy operation behind each. -/
noncomputable def drawRun (self : FuncId → List Value → St → Option (Value × St)) (n : Nat) (ops : Array Oper) (l : List RInfo) (fuel : Nat) : Nat → Tr Value → St → List Flo → Option (Tr Value × St) :=
  @Nat.rec (fun _ => Nat → Tr Value → St → List Flo → Option (Tr Value × St)) (fun _ _ _ _ => none) (fun _ ih D T σ H =>
    match satRun P n ops σ l D T H [] with
    | none => none
    | some (D, T, H, hv) => match recheck P σ T ops H with
      | false => none
      | true => match hv with
        | [] => match allDone D l with
          | true => some (T, σ)
          | false => none
        | h :: r => match alone r with
          | true => match opRun P self n ops h.o T σ with
            | some (T', σ') => match keptBorn σ' (keepFlo h H) with
              | true => ih (Nat.lor D (2 ^ h.i)) T' σ' (keepFlo h H)
              | false => none
            | none => none
          | false => match bornsOf P σ T ops (h :: r) with
            | [] => match insRun P ops l (h :: r) D T σ H with
              | some (D', σ') => ih D' T σ' H
              | none => none
            | b :: bs => match bornRun P n ops l (b :: bs) D T σ H with
              | some (D', T', σ', H') => ih D' T' σ' H'
              | none => none) fuel

end

noncomputable def resultOf (σ : St) (T : Tr Value) : ResultVar → Option Value
  | .tmp t => some (tmpOf T t)
  | .cell a t => match eLoad P σ t (tmpOf T a) with
    | some (.val v) => some v
    | _ => none

noncomputable def resultsOf (σ : St) (T : Tr Value) (l : List ResultVar) : Option (List Value) :=
  @List.rec ResultVar (fun _ => Option (List Value)) (some []) (fun x _ ih => match resultOf P σ T x with
    | none => none
    | some v => match ih with
      | none => none
      | some r => some (v :: r)) l

def packL : List Value → Value
  | [v] => v
  | l => .tuple l.toArray

/-- What a call comes to, by a given summary. -/
abbrev Summ := FuncId → List Value → St → Option (Option (Value × St))

/-- Does code leave by its end or by a return? -/
def AEx.leaves : AEx → Bool
  | .normal => true
  | .ret => true
  | .exit _ => false

def noneLeft (σ : St) : Bool := match σ.dfr with
  | [] => true
  | _ :: _ => false

/-- A deferred call: by its body. 'XD': those that are known to do nothing. -/
noncomputable def deferRun (XD : FuncId → List Value → Bool) (code : Nat → Code → Tr Value → St → Option (AEx × Tr Value × St)) (f : FuncId) (args : List Value) (σ : St) : Option St :=
  match XD f args with
  | true => some σ
  | false => match P.funcs[f]? with
    | none => none
    | some fn => match fn.body with
      | none => none
      | some c => match code (Nat.max args.length fn.ntmps) c (fillTr args 0 .nil) (σ.keepD []) with
        | some (e, T, σ') => match e.leaves && noneLeft σ' with
          | true => match resultsOf P σ' T fn.results.toList with
            | some _ => some σ'
            | none => none
          | false => none
        | none => none

/-- All deferred calls, the latest first. -/
noncomputable def defersRun (XD : FuncId → List Value → Bool) (code : Nat → Code → Tr Value → St → Option (AEx × Tr Value × St)) (l : List Value) : St → Option St :=
  @List.rec Value (fun _ => St → Option St) (fun σ => some σ) (fun v _ ih σ => match v with
    | .func (.func f) first captured => match deferRun P XD code f (first.toList ++ captured.toList) σ with
      | some σ' => ih σ'
      | none => none
    | _ => none) l

/-- A call: by its summary, else by its body. -/
noncomputable def callRun (X : Summ) (XD : FuncId → List Value → Bool) (code : Nat → Code → Tr Value → St → Option (AEx × Tr Value × St)) (f : FuncId) (args : List Value) (σ : St) : Option (Value × St) :=
  match X f args σ with
  | some r => r
  | none => match P.funcs[f]? with
    | none => none
    | some fn => match fn.body with
      | none => none
      | some c => match code (Nat.max args.length fn.ntmps) c (fillTr args 0 .nil) (σ.keepD []) with
        | some (e, T, σ1) => match e.leaves with
          | true => match defersRun P XD code σ1.dfr σ1 with
            | some σ' => match resultsOf P σ' T fn.results.toList with
              | some l => some (packL l, σ')
              | none => none
            | none => none
          | false => none
        | none => none

section
variable [Quiet]

noncomputable def codeStep (X : Summ) (XD : FuncId → List Value → Bool) (ih : Nat → Code → Tr Value → St → Option (AEx × Tr Value × St)) (n : Nat) (c : Code) (T : Tr Value) (σ : St) : Option (AEx × Tr Value × St) := match c with
  | .skip => some (.normal, T, σ)
  | .label _ => some (.normal, T, σ)
  | .ret => some (.ret, T, σ)
  | .exit id => some (.exit id, T, σ)
  | .region _ ops draw => match draw with
    | false => match seqRun P (callRun P X XD ih) n ops ops.toList T σ with
      | some (T', σ') => some (.normal, T', σ')
      | none => none
    | true => match regionOk (infosOf ops) with
      | false => none
      | true => match drawRun P (callRun P X XD ih) n ops (infosOf ops) (Nat.succ ops.toList.length) 0 T σ [] with
        | some (T', σ') => some (.normal, T', σ'.keepD σ.dfr)
        | none => none
  | .seq a b => match ih n a T σ with
    | some (.normal, T', σ') => ih n b T' σ'
    | r => r
  | .cond x a b => match opd σ T x with
    | some (.bool true) => ih n a T σ
    | some (.bool false) => ih n b T σ
    | _ => none
  | .block id b => match ih n b T σ with
    | some (.exit id', T', σ') => match Nat.beq id' id with
      | true => some (.normal, T', σ')
      | false => some (.exit id', T', σ')
    | r => r
  | .loop b => match ih n b T σ with
    | some (.normal, T', σ') => ih n (.loop b) T' σ'
    | r => r
  | _ => none

noncomputable def codeRun (X : Summ) (XD : FuncId → List Value → Bool) (fuel : Nat) : Nat → Code → Tr Value → St → Option (AEx × Tr Value × St) :=
  @Nat.rec (fun _ => Nat → Code → Tr Value → St → Option (AEx × Tr Value × St)) (fun _ _ _ _ => none) (fun _ ih => codeStep P X XD ih) fuel

/-- A call from an empty heap: does it hand back true? -/
noncomputable def gate (X : Summ) (XD : FuncId → List Value → Bool) (σ : St) (f : FuncId) : Bool := match callRun P X XD (codeRun P X XD 1000000000000) f [] σ with
  | some (.bool b, _) => b
  | _ => false

end

def St.empty : St := { heap := .nil, next := 0, cls := .nil, G := 0, dfr := [] }
end
end Go.Ke
