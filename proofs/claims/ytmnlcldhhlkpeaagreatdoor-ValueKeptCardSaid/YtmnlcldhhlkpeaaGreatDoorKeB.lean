/- The values of the abstract run and how they stand to the true ones ('VRel': blocks by a map of numbers, a slice's capacity known or not), the abstract heap, and how it stands to a world ('Rel'). No condition. -/
import Derived.Test.YtmnlcldhhlkpeaaGreatDoorKeA
namespace Go.Ke
open Go.RowKit (Below)

/-- From here on a capacity means 'not known'. -/
def unk : Nat := 9223372036854775808

/-- Where a block of the abstract heap lies in the world: the block, the place in it; how many cells that block has; of how many cells an element of a slice over it is. -/
structure Pl where
  b : Nat
  o : Nat
  S : Nat
  sz : Nat
abbrev Loc := Nat → Option Pl

def Loc.le (ρ ρ' : Loc) : Prop := ∀ k x, ρ k = some x → ρ' k = some x
theorem Loc.le_refl (ρ : Loc) : ρ.le ρ := fun _ _ h => h
theorem Loc.le_trans {a b c : Loc} (h : a.le b) (h' : b.le c) : a.le c := fun k x e => h' k x (h k x e)

/-- An abstract value and a true one. -/
inductive VRel (ρ : Loc) : Value → Value → Prop where
  | bool (b : Bool) : VRel ρ (.bool b) (.bool b)
  | int (k : IntKind) (n : Int) : VRel ρ (.int k n) (.int k n)
  | str (s : ByteArray) : VRel ρ (.string s) (.string s)
  | pnil : VRel ρ (.pointer none) (.pointer none)
  | ptr (k off : Nat) (p : Pl) (h : ρ k = some p) : VRel ρ (.pointer (some ⟨k, off, none⟩)) (.pointer (some ⟨p.b, p.o + off, none⟩))
  | snil : VRel ρ (.slice none 0 0) (.slice none 0 0)
  | slice (k off len cap : Nat) (p : Pl) (off' cap' : Nat) (h : ρ k = some p) (hl : len ≤ cap') (ha : cap' = 0 ∨ off' = p.o + off) (hc : cap < unk → cap' = cap)
      (hs : unk ≤ cap → cap' = 0 ∨ off' + cap' * p.sz ≤ p.S) : VRel ρ (.slice (some ⟨k, off, none⟩) len cap) (.slice (some ⟨p.b, off', none⟩) len cap')
  | mnil : VRel ρ (.map none) (.map none)
  | map (k : Nat) (p : Pl) (h : ρ k = some p) : VRel ρ (.map (some k)) (.map (some p.b))
  | fn (f : FuncId) (xs ys xs' ys' : Array Value) (hx : xs.size = xs'.size) (hy : ys.size = ys'.size)
      (cx : ∀ i (h : i < xs.size) (h' : i < xs'.size), VRel ρ xs[i] xs'[i]) (cy : ∀ i (h : i < ys.size) (h' : i < ys'.size), VRel ρ ys[i] ys'[i]) :
      VRel ρ (.func (.func f) xs ys) (.func (.func f) xs' ys')
  | nilFunc : VRel ρ .nilFunc .nilFunc
  | iface (t : TypeId) (v v' : Value) (h : VRel ρ v v') : VRel ρ (.iface t v) (.iface t v')
  | nilIface : VRel ρ .nilIface .nilIface
  | agg (xs ys : Array Value) (hs : xs.size = ys.size) (hc : ∀ i (h : i < xs.size) (h' : i < ys.size), VRel ρ xs[i] ys[i]) : VRel ρ (.agg xs) (.agg ys)
  | tuple (xs ys : Array Value) (hs : xs.size = ys.size) (hc : ∀ i (h : i < xs.size) (h' : i < ys.size), VRel ρ xs[i] ys[i]) : VRel ρ (.tuple xs) (.tuple ys)

theorem VRel.mono {ρ ρ' : Loc} (hle : ρ.le ρ') {v v' : Value} (h : VRel ρ v v') : VRel ρ' v v' := by
  induction h with
  | bool b => exact .bool b
  | int k n => exact .int k n
  | str s => exact .str s
  | pnil => exact .pnil
  | ptr k off p h => exact .ptr k off p (hle _ _ h)
  | snil => exact .snil
  | slice k off len cap p off' cap' h hl ha hc hs => exact .slice k off len cap p off' cap' (hle _ _ h) hl ha hc hs
  | mnil => exact .mnil
  | map k p h => exact .map k p (hle _ _ h)
  | fn f xs ys xs' ys' hx hy _ _ ihx ihy => exact .fn f xs ys xs' ys' hx hy ihx ihy
  | nilFunc => exact .nilFunc
  | iface t v v' _ ih => exact .iface t v v' ih
  | nilIface => exact .nilIface
  | agg xs ys hs _ ih => exact .agg xs ys hs ih
  | tuple xs ys hs _ ih => exact .tuple xs ys hs ih

/-- Two lists, place by place. -/
inductive F2 {α β : Type} (R : α → β → Prop) : List α → List β → Prop where
  | nil : F2 R [] []
  | cons {a : α} {b : β} {l : List α} {l' : List β} (h : R a b) (t : F2 R l l') : F2 R (a :: l) (b :: l')

/-- Lists of values, place by place. -/
abbrev LRel (ρ : Loc) (xs ys : List Value) : Prop := F2 (VRel ρ) xs ys

theorem LRel.of_array {ρ : Loc} {xs ys : Array Value} (hs : xs.size = ys.size) (hc : ∀ i (h : i < xs.size) (h' : i < ys.size), VRel ρ xs[i] ys[i]) :
    LRel ρ xs.toList ys.toList := by
  obtain ⟨xs⟩ := xs
  obtain ⟨ys⟩ := ys
  simp only [List.size_toArray] at hs
  show F2 _ xs ys
  induction xs generalizing ys with
  | nil => cases ys with
    | nil => exact .nil
    | cons y ys => simp at hs
  | cons x xs ih => cases ys with
    | nil => simp at hs
    | cons y ys =>
      refine .cons (hc 0 (by simp) (by simp)) (ih ys (fun i h h' => ?_) (by simpa using hs))
      have := hc (i + 1) (by simpa using h) (by simpa using h')
      simpa using this

theorem LRel.length {ρ : Loc} {xs ys : List Value} (h : LRel ρ xs ys) : xs.length = ys.length := by
  induction h with
  | nil => rfl
  | cons _ _ ih => simp [ih]

theorem LRel.get {ρ : Loc} {xs ys : List Value} (h : LRel ρ xs ys) : ∀ (i : Nat) (x : Value), xs[i]? = some x → ∃ y, ys[i]? = some y ∧ VRel ρ x y := by
  induction h with
  | nil => intro i x hx; simp at hx
  | cons hxy _ ih =>
    intro i x hx
    cases i with
    | zero => simp at hx; subst hx; exact ⟨_, by simp, hxy⟩
    | succ i => simpa using ih i x (by simpa using hx)

theorem LRel.to_array {ρ : Loc} {xs ys : List Value} (h : LRel ρ xs ys) :
    xs.toArray.size = ys.toArray.size ∧ ∀ i (h : i < xs.toArray.size) (h' : i < ys.toArray.size), VRel ρ xs.toArray[i] ys.toArray[i] := by
  refine ⟨by simpa using h.length, fun i h1 h2 => ?_⟩
  obtain ⟨y, hy, hr⟩ := h.get i xs.toArray[i] (by simp)
  have : ys.toArray[i] = y := by
    have := List.getElem?_eq_some_iff.1 hy
    obtain ⟨_, e⟩ := this
    simpa using e
  rw [this]; exact hr

theorem LRel.mono {ρ ρ' : Loc} (hle : ρ.le ρ') {xs ys : List Value} (h : LRel ρ xs ys) : LRel ρ' xs ys := by
  induction h with
  | nil => exact .nil
  | cons hxy _ ih => exact .cons (hxy.mono hle) ih

theorem LRel.append {ρ : Loc} {xs ys xs' ys' : List Value} (h : LRel ρ xs ys) (h' : LRel ρ xs' ys') : LRel ρ (xs ++ xs') (ys ++ ys') := by
  induction h with
  | nil => simpa using h'
  | cons hxy _ ih => exact .cons hxy ih

theorem VRel.cells {ρ : Loc} {v v' : Value} (h : VRel ρ v v') : LRel ρ v.cells.toList v'.cells.toList := by
  cases h with
  | agg xs ys hs hc => exact LRel.of_array hs hc
  | tuple xs ys hs hc => exact .cons (.tuple xs ys hs hc) .nil
  | bool b => exact .cons (.bool b) .nil
  | int k n => exact .cons (.int k n) .nil
  | str s => exact .cons (.str s) .nil
  | pnil => exact .cons .pnil .nil
  | ptr k off p h => exact .cons (.ptr k off p h) .nil
  | snil => exact .cons .snil .nil
  | slice k off len cap p off' cap' h hl ha hc hs => exact .cons (.slice k off len cap p off' cap' h hl ha hc hs) .nil
  | mnil => exact .cons .mnil .nil
  | map k p h => exact .cons (.map k p h) .nil
  | fn f xs ys xs' ys' hx hy cx cy => exact .cons (.fn f xs ys xs' ys' hx hy cx cy) .nil
  | nilFunc => exact .cons .nilFunc .nil
  | iface t v v' h => exact .cons (.iface t v v' h) .nil
  | nilIface => exact .cons .nilIface .nil

/-- A value without an address, of one cell. -/
def plain1 : Value → Bool
  | .bool _ => true
  | .int _ _ => true
  | .string _ => true
  | .pointer none => true
  | .slice none 0 0 => true
  | .map none => true
  | .nilFunc => true
  | .nilIface => true
  | _ => false

theorem plain1_rel (ρ : Loc) {v : Value} (h : plain1 v = true) : VRel ρ v v := by
  unfold plain1 at h
  split at h <;> first | exact .bool _ | exact .int _ _ | exact .str _ | exact .pnil | exact .snil | exact .mnil | exact .nilFunc | exact .nilIface | cases h

theorem plain1_eq {ρ : Loc} {v v' : Value} (h : VRel ρ v v') (hp : plain1 v = true) : v' = v := by
  cases h <;> first | rfl | (simp [plain1] at hp)

noncomputable def allPlain (l : List Value) : Bool := @List.rec Value (fun _ => Bool) true (fun v _ ih => @Bool.rec (fun _ => Bool) false ih (plain1 v)) l
theorem allPlain_nil : allPlain [] = true := rfl
theorem allPlain_cons (v : Value) (l : List Value) : allPlain (v :: l) = (plain1 v && allPlain l) := by
  show @Bool.rec (fun _ => Bool) false (allPlain l) (plain1 v) = _
  cases plain1 v <;> rfl
theorem allPlain_mem {l : List Value} (h : allPlain l = true) : ∀ v ∈ l, plain1 v = true := by
  induction l with
  | nil => intro v hv; cases hv
  | cons x l ih =>
    rw [allPlain_cons] at h
    simp only [Bool.and_eq_true] at h
    intro v hv
    cases hv with
    | head => exact h.1
    | tail _ hv => exact ih h.2 v hv
theorem allPlain_rel (ρ : Loc) : ∀ {l : List Value}, allPlain l = true → LRel ρ l l := by
  intro l
  induction l with
  | nil => intro _; exact .nil
  | cons x l ih =>
    intro h
    rw [allPlain_cons] at h
    simp only [Bool.and_eq_true] at h
    exact .cons (plain1_rel ρ h.1) (ih h.2)
theorem allPlain_eq {ρ : Loc} {l l' : List Value} (h : LRel ρ l l') (hp : allPlain l = true) : l' = l := by
  induction h with
  | nil => rfl
  | cons hxy _ ih =>
    rw [allPlain_cons] at hp
    simp only [Bool.and_eq_true] at hp
    rw [plain1_eq hxy hp.1, ih hp.2]

/-- A value without an address. -/
noncomputable def plainV : Value → Bool
  | .agg cs => allPlain cs.toList
  | .tuple cs => allPlain cs.toList
  | v => plain1 v

theorem plainV_rel (ρ : Loc) {v : Value} (h : plainV v = true) : VRel ρ v v := by
  unfold plainV at h
  split at h
  · rename_i cs
    obtain ⟨h1, h2⟩ := (allPlain_rel ρ h).to_array
    exact .agg _ _ rfl (by simpa using h2)
  · rename_i cs
    obtain ⟨h1, h2⟩ := (allPlain_rel ρ h).to_array
    exact .tuple _ _ rfl (by simpa using h2)
  · exact plain1_rel ρ h

/-! ### The abstract heap -/

inductive AObj where
  | row (cells : Tr Value) (len : Nat) (elem : TypeId) (cls pos : Nat)
  | map (es : List MapEntry) (clock : Nat)
  | mapIter (m : Option Nat) (since : Nat) (seen : List Nat) (stepped : Nat)
  | strIter (s : ByteArray) (pos : Nat)

/-- The blocks that an append may have laid one upon the other: each with the place at which it ends; which places may be frozen ('ro': all). -/
structure ACls where
  stack : List (Nat × Nat)
  lo : Nat
  hi : Nat
  tail : Bool
  ro : Bool

/-- 'G': the blocks below it are the package-level variables. 'dfr': the deferred calls of the frame that runs, the latest first, each as a function value with its arguments ahead. -/
structure St where
  heap : Tr AObj
  next : Nat
  cls : Tr ACls
  G : Nat
  dfr : List Value

noncomputable def inStack (k : Nat) (l : List (Nat × Nat)) : Bool :=
  @List.rec (Nat × Nat) (fun _ => Bool) false (fun x _ ih => @Bool.rec (fun _ => Bool) ih true (Nat.beq x.1 k)) l
theorem inStack_cons (k : Nat) (x : Nat × Nat) (l : List (Nat × Nat)) : inStack k (x :: l) = (Nat.beq x.1 k || inStack k l) := by
  show @Bool.rec (fun _ => Bool) (inStack k l) true (Nat.beq x.1 k) = _
  cases Nat.beq x.1 k <;> rfl
theorem inStack_iff (k : Nat) (l : List (Nat × Nat)) : inStack k l = true ↔ ∃ e, (k, e) ∈ l := by
  induction l with
  | nil => simp [inStack]
  | cons x l ih =>
    rw [inStack_cons, Bool.or_eq_true, ih]
    constructor
    · rintro (h | ⟨e, h⟩)
      · have := Nat.eq_of_beq_eq_true h
        exact ⟨x.2, by subst this; simp⟩
      · exact ⟨e, by simp [h]⟩
    · rintro ⟨e, h⟩
      cases h with
      | head => left; exact Nat.beq_refl k
      | tail _ h => right; exact ⟨e, h⟩

/-- May block 'k' of class 'c' still be read? -/
noncomputable def St.valid (σ : St) (k c : Nat) : Bool := match σ.cls.get c with
  | none => true
  | some x => inStack k x.stack

/-- May the place 'p' be frozen? -/
def ACls.frozenAt (x : ACls) (p : Nat) : Prop := x.ro = true ∨ (x.lo ≤ p ∧ p < x.hi)
def St.maybeFrozen (σ : St) (c p : Nat) : Prop := ∃ x, σ.cls.get c = some x ∧ x.frozenAt p

structure ERel (ρ : Loc) (e e' : MapEntry) : Prop where
  key : VRel ρ e.key e'.key
  val : VRel ρ e.val e'.val
  born : e'.born = e.born

/-- The cells of a row of the abstract heap, in the world. -/
structure RowRel (ρ : Loc) (σ : St) (w : World) (k : Nat) (p : Pl) (cells : Tr Value) (len : Nat) (elem : TypeId) (cls pos : Nat) (c : Array Value) (fz : Nat × Nat) : Prop where
  at' : w.heap[p.b]? = some (.cells c elem fz)
  size : c.size = p.S
  within : p.o ≤ c.size
  holds : σ.valid k cls = true → p.o + len ≤ c.size ∧ ∀ i v, i < len → cells.get i = some v → ∃ v', c[p.o + i]? = some v' ∧ VRel ρ v v'
  free : ∀ i, p.o + i < c.size → ¬ σ.maybeFrozen cls (pos + i) → ¬ (fz.1 ≤ p.o + i ∧ p.o + i < fz.2)
  ends : ∀ x, σ.cls.get cls = some x → ∀ e, (k, e) ∈ x.stack → e = pos + len
  base : pos = 0 → p.o = 0

def MRel (ρ : Loc) : Option Nat → Option Nat → Prop
  | none, none => True
  | some r, some r' => ∃ p, ρ r = some p ∧ p.b = r'
  | _, _ => False

/-- What a block of the abstract heap says of the world. -/
def ORel (P : Program) (ρ : Loc) (σ : St) (w : World) (k : Nat) (p : Pl) : AObj → Prop
  | .row cells len elem cls pos => p.sz = P.cellsOf elem ∧ ∃ c fz, RowRel ρ σ w k p cells len elem cls pos c fz
  | .map es clock => ∃ es', w.heap[p.b]? = some (.map es' clock) ∧ F2 (ERel ρ) es es'.toList
  | .mapIter m since seen stepped => p.o = 0 ∧ ∃ m', w.heap[p.b]? = some (.mapIter m' since seen.toArray stepped) ∧ MRel ρ m m'
  | .strIter s pos => p.o = 0 ∧ w.heap[p.b]? = some (.stringIter s pos)

/-- The class of a block, and its place in it. -/
def AObj.clsOf (k : Nat) : AObj → Nat
  | .row _ _ _ c _ => c
  | _ => k
def AObj.posOf : AObj → Nat
  | .row _ _ _ _ p => p
  | _ => 0

structure Rel (P : Program) (N : Nat) (ρ : Loc) (σ : St) (w : World) : Prop where
  dom : ∀ k p, ρ k = some p → p.b < w.heap.size ∧ ∃ ob, σ.heap.get k = some ob ∧ (N ≤ p.b ∨ ∀ i, σ.maybeFrozen (ob.clsOf k) i)
  above : ∀ k ob, σ.heap.get k = some ob → k < σ.next ∧ ob.clsOf k < σ.next
  clsAbove : ∀ c x, σ.cls.get c = some x → c < σ.next ∧ ∀ k e, (k, e) ∈ x.stack → k < σ.next
  obj : ∀ k p ob, ρ k = some p → σ.heap.get k = some ob → ORel P ρ σ w k p ob
  sep : ∀ k k' p p' ob ob', ρ k = some p → ρ k' = some p' → p.b = p'.b → σ.heap.get k = some ob → σ.heap.get k' = some ob' →
    ob.clsOf k = ob'.clsOf k' ∧ p.o + ob'.posOf = p'.o + ob.posOf
  lone : ∀ k k' ob ob', σ.heap.get k = some ob → σ.heap.get k' = some ob' → ob.clsOf k = ob'.clsOf k' → σ.cls.get (ob.clsOf k) = none → k = k'
  glob : ∀ g, g < σ.G → ∃ p, ρ g = some p ∧ p.b = g ∧ p.o = 0
  size : N ≤ w.heap.size

end Go.Ke
