/- The abstract run: trees, values, what stands for what. No condition. -/
import Derived.WalkKit
namespace Go.Ke

inductive Tr (α : Type) where
  | nil
  | node (l : Tr α) (v : Option α) (r : Tr α)

namespace Tr
variable {α : Type}

noncomputable def get (t : Tr α) : Nat → Option α :=
  Tr.rec (motive := fun _ => Nat → Option α) (fun _ => .none)
    (fun _ v _ ihl ihr k => @Nat.rec (fun _ => Option α) v (fun _ _ => @Bool.rec (fun _ => Option α) (ihr (Nat.sub (Nat.div k 2) 1)) (ihl (Nat.div k 2)) (Nat.beq (Nat.mod k 2) 1)) k) t

noncomputable def one (x : α) (f : Nat) : Nat → Tr α :=
  @Nat.rec (fun _ => Nat → Tr α) (fun _ => .node .nil (.some x) .nil)
    (fun _ ih k => @Nat.rec (fun _ => Tr α) (.node .nil (.some x) .nil) (fun _ _ => @Bool.rec (fun _ => Tr α) (.node .nil .none (ih (Nat.sub (Nat.div k 2) 1))) (.node (ih (Nat.div k 2)) .none .nil) (Nat.beq (Nat.mod k 2) 1)) k) f

noncomputable def set (x : α) (t : Tr α) : Nat → Tr α :=
  Tr.rec (motive := fun _ => Nat → Tr α) (fun k => Tr.one x k k)
    (fun l v r ihl ihr k => @Nat.rec (fun _ => Tr α) (.node l (.some x) r) (fun _ _ => @Bool.rec (fun _ => Tr α) (.node l v (ihr (Nat.sub (Nat.div k 2) 1))) (.node (ihl (Nat.div k 2)) v r) (Nat.beq (Nat.mod k 2) 1)) k) t

theorem get_nil (k : Nat) : (Tr.nil : Tr α).get k = none := rfl

theorem get_node (l : Tr α) (v : Option α) (r : Tr α) (k : Nat) :
    (Tr.node l v r).get k = if k = 0 then v else if k % 2 = 1 then l.get (k / 2) else r.get (k / 2 - 1) := by
  cases k with
  | zero => rfl
  | succ k =>
    rw [if_neg (by omega)]
    show @Bool.rec (fun _ => Option α) (r.get ((k + 1) / 2 - 1)) (l.get ((k + 1) / 2)) (Nat.beq ((k + 1) % 2) 1) = _
    by_cases h : (k + 1) % 2 = 1
    · rw [if_pos h, h]; rfl
    · have h0 : (k + 1) % 2 = 0 := by omega
      rw [if_neg h, h0]; rfl

theorem set_nil (x : α) (k : Nat) : (Tr.nil : Tr α).set x k = Tr.one x k k := rfl

theorem set_node (x : α) (l : Tr α) (v : Option α) (r : Tr α) (k : Nat) :
    (Tr.node l v r).set x k = if k = 0 then .node l (some x) r else if k % 2 = 1 then .node (l.set x (k / 2)) v r else .node l v (r.set x (k / 2 - 1)) := by
  cases k with
  | zero => rfl
  | succ k =>
    rw [if_neg (by omega)]
    show @Bool.rec (fun _ => Tr α) (.node l v (r.set x ((k + 1) / 2 - 1))) (.node (l.set x ((k + 1) / 2)) v r) (Nat.beq ((k + 1) % 2) 1) = _
    by_cases h : (k + 1) % 2 = 1
    · rw [if_pos h, h]; rfl
    · have h0 : (k + 1) % 2 = 0 := by omega
      rw [if_neg h, h0]; rfl

theorem one_zero (x : α) (f : Nat) : Tr.one x f 0 = .node .nil (some x) .nil := by cases f <;> rfl

theorem one_succ (x : α) (f k : Nat) (h : k ≠ 0) :
    Tr.one x (f + 1) k = if k % 2 = 1 then .node (Tr.one x f (k / 2)) none .nil else .node .nil none (Tr.one x f (k / 2 - 1)) := by
  cases k with
  | zero => exact absurd rfl h
  | succ k =>
    show @Bool.rec (fun _ => Tr α) (.node .nil none (Tr.one x f ((k + 1) / 2 - 1))) (.node (Tr.one x f ((k + 1) / 2)) none .nil) (Nat.beq ((k + 1) % 2) 1) = _
    by_cases h : (k + 1) % 2 = 1
    · rw [if_pos h, h]; rfl
    · have h0 : (k + 1) % 2 = 0 := by omega
      rw [if_neg h, h0]; rfl

theorem get_one (x : α) : ∀ (f k j : Nat), k ≤ f → (Tr.one x f k).get j = if j = k then some x else none := by
  intro f
  induction f with
  | zero =>
    intro k j hk
    obtain rfl : k = 0 := by omega
    rw [one_zero, get_node]
    split <;> simp_all [get_nil]
  | succ f ih =>
    intro k j hk
    by_cases h0 : k = 0
    · subst h0; rw [one_zero, get_node]
      split <;> simp_all [get_nil]
    · rw [one_succ _ _ _ h0]
      by_cases h : k % 2 = 1
      · rw [if_pos h, get_node]
        by_cases j0 : j = 0
        · rw [if_pos j0, if_neg (by omega)]
        · rw [if_neg j0]
          by_cases jo : j % 2 = 1
          · rw [if_pos jo, ih _ _ (by omega)]
            by_cases e : j = k
            · rw [if_pos e, if_pos (by rw [e])]
            · rw [if_neg e, if_neg (by omega)]
          · rw [if_neg jo, get_nil, if_neg (by intro e; subst e; exact jo h)]
      · rw [if_neg h, get_node]
        by_cases j0 : j = 0
        · rw [if_pos j0, if_neg (by omega)]
        · rw [if_neg j0]
          by_cases jo : j % 2 = 1
          · rw [if_pos jo, get_nil, if_neg (by intro e; subst e; exact h jo)]
          · rw [if_neg jo, ih _ _ (by omega)]
            by_cases e : j = k
            · rw [if_pos e, if_pos (by rw [e])]
            · rw [if_neg e, if_neg (by omega)]

theorem get_set (x : α) : ∀ (t : Tr α) (k j : Nat), (t.set x k).get j = if j = k then some x else t.get j := by
  intro t
  induction t with
  | nil =>
    intro k j
    rw [set_nil, get_one _ _ _ _ (Nat.le_refl _), get_nil]
  | node l v r ihl ihr =>
    intro k j
    rw [set_node]
    by_cases k0 : k = 0
    · rw [if_pos k0, get_node, get_node]
      by_cases j0 : j = 0
      · rw [if_pos j0, if_pos (show j = k by omega)]
      · rw [if_neg j0, if_neg j0, if_neg (show ¬ j = k by omega)]
    · rw [if_neg k0]
      by_cases h : k % 2 = 1
      · rw [if_pos h, get_node, get_node]
        by_cases j0 : j = 0
        · rw [if_pos j0, if_neg (by omega), if_pos j0]
        · rw [if_neg j0, if_neg j0]
          by_cases jo : j % 2 = 1
          · rw [if_pos jo, if_pos jo, ihl]
            by_cases e : j = k
            · rw [if_pos e, if_pos (by rw [e])]
            · rw [if_neg e, if_neg (by omega)]
          · rw [if_neg jo, if_neg jo, if_neg (by intro e; subst e; exact jo h)]
      · rw [if_neg h, get_node, get_node]
        by_cases j0 : j = 0
        · rw [if_pos j0, if_neg (by omega), if_pos j0]
        · rw [if_neg j0, if_neg j0]
          by_cases jo : j % 2 = 1
          · rw [if_pos jo, if_pos jo, if_neg (by intro e; subst e; exact h jo)]
          · rw [if_neg jo, if_neg jo, ihr]
            by_cases e : j = k
            · rw [if_pos e, if_pos (by rw [e])]
            · rw [if_neg e, if_neg (by omega)]

theorem get_set_self (x : α) (t : Tr α) (k : Nat) : (t.set x k).get k = some x := by rw [get_set, if_pos rfl]
theorem get_set_ne (x : α) (t : Tr α) {k j : Nat} (h : j ≠ k) : (t.set x k).get j = t.get j := by rw [get_set, if_neg h]
end Tr

/-- A list laid into a map from the place 'i' on. -/
noncomputable def fillTr {α : Type} (l : List α) : Nat → Tr α → Tr α :=
  @List.rec α (fun _ => Nat → Tr α → Tr α) (fun _ t => t) (fun x _ ih i t => ih (Nat.succ i) (t.set x i)) l

theorem fillTr_nil {α : Type} (i : Nat) (t : Tr α) : fillTr [] i t = t := rfl
theorem fillTr_cons {α : Type} (x : α) (l : List α) (i : Nat) (t : Tr α) : fillTr (x :: l) i t = fillTr l (i + 1) (t.set x i) := rfl

theorem get_fillTr {α : Type} : ∀ (l : List α) (i : Nat) (t : Tr α) (j : Nat),
    (fillTr l i t).get j = if i ≤ j ∧ j < i + l.length then l[j - i]? else t.get j := by
  intro l
  induction l with
  | nil => intro i t j; rw [fillTr_nil, if_neg (by simp)]
  | cons x l ih =>
    intro i t j
    rw [fillTr_cons, ih]
    by_cases h : i + 1 ≤ j ∧ j < i + 1 + l.length
    · rw [if_pos h, if_pos (by simp; omega)]
      obtain ⟨m, rfl⟩ : ∃ m, j = i + 1 + m := ⟨j - (i + 1), by omega⟩
      rw [show i + 1 + m - (i + 1) = m by omega, show i + 1 + m - i = m + 1 by omega]
      rfl
    · rw [if_neg h, Tr.get_set]
      by_cases e : j = i
      · subst e
        rw [if_pos rfl, if_pos (by simp)]
        simp
      · rw [if_neg e, if_neg (by simp at h ⊢; omega)]

/-- The cells of a map from the place 'i' on, 'n' of them: all must be there. -/
noncomputable def readTr {α : Type} (t : Tr α) (n : Nat) : Nat → Option (List α) :=
  @Nat.rec (fun _ => Nat → Option (List α)) (fun _ => .some [])
    (fun _ ih i => @Option.rec α (fun _ => Option (List α)) .none (fun x => @Option.rec (List α) (fun _ => Option (List α)) .none (fun l => .some (x :: l)) (ih (Nat.succ i))) (t.get i)) n

theorem readTr_zero {α : Type} (t : Tr α) (i : Nat) : readTr t 0 i = some [] := rfl

theorem readTr_spec {α : Type} (t : Tr α) : ∀ (n i : Nat) (l : List α), readTr t n i = some l → l.length = n ∧ ∀ j, j < n → ∀ x, l[j]? = some x → t.get (i + j) = some x := by
  intro n
  induction n with
  | zero => intro i l h; cases h; exact ⟨rfl, fun j hj => absurd hj (by omega)⟩
  | succ n ih =>
    intro i l h
    change @Option.rec α (fun _ => Option (List α)) .none (fun x => @Option.rec (List α) (fun _ => Option (List α)) .none (fun l => .some (x :: l)) (readTr t n (i + 1))) (t.get i) = some l at h
    cases hx : t.get i with
    | none => rw [hx] at h; cases h
    | some x =>
      rw [hx] at h
      change @Option.rec (List α) (fun _ => Option (List α)) .none (fun l => .some (x :: l)) (readTr t n (i + 1)) = some l at h
      cases hl : readTr t n (i + 1) with
      | none => rw [hl] at h; cases h
      | some l' =>
        rw [hl] at h
        cases h
        obtain ⟨h1, h2⟩ := ih _ _ hl
        refine ⟨by simp [h1], fun j hj y hy => ?_⟩
        cases j with
        | zero => simp at hy; subst hy; exact hx
        | succ j =>
          have := h2 j (by omega) y (by simpa using hy)
          rw [show i + (j + 1) = i + 1 + j by omega]; exact this

/-- A list's element by its place. -/
noncomputable def lget {α : Type} (l : List α) : Nat → Option α :=
  @List.rec α (fun _ => Nat → Option α) (fun _ => .none) (fun x _ ih i => @Nat.rec (fun _ => Option α) (.some x) (fun n _ => ih n) i) l

theorem lget_eq {α : Type} : ∀ (l : List α) (i : Nat), lget l i = l[i]? := by
  intro l
  induction l with
  | nil => intro i; rfl
  | cons x l ih =>
    intro i
    cases i with
    | zero => rfl
    | succ i => show lget l i = _; rw [ih]; simp

end Go.Ke

namespace Go.Ke
open Go.RowKit (Below)

/-- From here on a capacity means 'not known'. -/
def unk : Nat := 9223372036854775808

/-- Where a block of the abstract heap lies in the world: the block, the place in it; how many cells that block has; of how many cells an element of a slice over it is. -/
structure Pl where
  b : Nat
  o : Nat
  S : Nat
  sz : Nat
abbrev Loc := Nat → Option Pl

def Loc.le (ρ ρ' : Loc) : Prop := ∀ k x, ρ k = some x → ρ' k = some x
theorem Loc.le_refl (ρ : Loc) : ρ.le ρ := fun _ _ h => h
theorem Loc.le_trans {a b c : Loc} (h : a.le b) (h' : b.le c) : a.le c := fun k x e => h' k x (h k x e)

/-- What a value that is not known may be. -/
def anyV : Value → Bool
  | .slice _ _ _ => true
  | .string _ => true
  | _ => false

/-- An abstract value and a true one. '.chan none' stands for a value that is not known. -/
inductive VRel (ρ : Loc) : Value → Value → Prop where
  | bool (b : Bool) : VRel ρ (.bool b) (.bool b)
  | int (k : IntKind) (n : Int) : VRel ρ (.int k n) (.int k n)
  | str (s : ByteArray) : VRel ρ (.string s) (.string s)
  | pnil : VRel ρ (.pointer none) (.pointer none)
  | ptr (k off : Nat) (p : Pl) (h : ρ k = some p) : VRel ρ (.pointer (some ⟨k, off, none⟩)) (.pointer (some ⟨p.b, p.o + off, none⟩))
  | snil : VRel ρ (.slice none 0 0) (.slice none 0 0)
  | slice (k off len cap : Nat) (p : Pl) (off' cap' : Nat) (h : ρ k = some p) (hl : len ≤ cap') (ha : cap' = 0 ∨ off' = p.o + off) (hc : cap < unk → cap' = cap)
      (hs : unk ≤ cap → cap' = 0 ∨ off' + cap' * p.sz ≤ p.S) : VRel ρ (.slice (some ⟨k, off, none⟩) len cap) (.slice (some ⟨p.b, off', none⟩) len cap')
  | mnil : VRel ρ (.map none) (.map none)
  | map (k : Nat) (p : Pl) (h : ρ k = some p) : VRel ρ (.map (some k)) (.map (some p.b))
  | fn (f : FuncId) (xs ys xs' ys' : Array Value) (hx : xs.size = xs'.size) (hy : ys.size = ys'.size)
      (cx : ∀ i (h : i < xs.size) (h' : i < xs'.size), VRel ρ xs[i] xs'[i]) (cy : ∀ i (h : i < ys.size) (h' : i < ys'.size), VRel ρ ys[i] ys'[i]) :
      VRel ρ (.func (.func f) xs ys) (.func (.func f) xs' ys')
  | nilFunc : VRel ρ .nilFunc .nilFunc
  | iface (t : TypeId) (v v' : Value) (h : VRel ρ v v') : VRel ρ (.iface t v) (.iface t v')
  | nilIface : VRel ρ .nilIface .nilIface
  | agg (xs ys : Array Value) (hs : xs.size = ys.size) (hc : ∀ i (h : i < xs.size) (h' : i < ys.size), VRel ρ xs[i] ys[i]) : VRel ρ (.agg xs) (.agg ys)
  | tuple (xs ys : Array Value) (hs : xs.size = ys.size) (hc : ∀ i (h : i < xs.size) (h' : i < ys.size), VRel ρ xs[i] ys[i]) : VRel ρ (.tuple xs) (.tuple ys)
  | any (v : Value) (h : anyV v = true) : VRel ρ (.chan none) v

theorem anyV_cases {v : Value} (h : anyV v = true) : (∃ a l c, v = .slice a l c) ∨ ∃ s, v = .string s := by
  unfold anyV at h
  split at h
  · exact .inl ⟨_, _, _, rfl⟩
  · exact .inr ⟨_, rfl⟩
  · cases h

theorem VRel.mono {ρ ρ' : Loc} (hle : ρ.le ρ') {v v' : Value} (h : VRel ρ v v') : VRel ρ' v v' := by
  induction h with
  | bool b => exact .bool b
  | int k n => exact .int k n
  | str s => exact .str s
  | pnil => exact .pnil
  | ptr k off p h => exact .ptr k off p (hle _ _ h)
  | snil => exact .snil
  | slice k off len cap p off' cap' h hl ha hc hs => exact .slice k off len cap p off' cap' (hle _ _ h) hl ha hc hs
  | mnil => exact .mnil
  | map k p h => exact .map k p (hle _ _ h)
  | fn f xs ys xs' ys' hx hy _ _ ihx ihy => exact .fn f xs ys xs' ys' hx hy ihx ihy
  | nilFunc => exact .nilFunc
  | iface t v v' _ ih => exact .iface t v v' ih
  | nilIface => exact .nilIface
  | agg xs ys hs _ ih => exact .agg xs ys hs ih
  | tuple xs ys hs _ ih => exact .tuple xs ys hs ih
  | any v h => exact .any v h

/-- Two lists, place by place. -/
inductive F2 {α β : Type} (R : α → β → Prop) : List α → List β → Prop where
  | nil : F2 R [] []
  | cons {a : α} {b : β} {l : List α} {l' : List β} (h : R a b) (t : F2 R l l') : F2 R (a :: l) (b :: l')

/-- Lists of values, place by place. -/
abbrev LRel (ρ : Loc) (xs ys : List Value) : Prop := F2 (VRel ρ) xs ys

theorem LRel.of_array {ρ : Loc} {xs ys : Array Value} (hs : xs.size = ys.size) (hc : ∀ i (h : i < xs.size) (h' : i < ys.size), VRel ρ xs[i] ys[i]) :
    LRel ρ xs.toList ys.toList := by
  obtain ⟨xs⟩ := xs
  obtain ⟨ys⟩ := ys
  simp only [List.size_toArray] at hs
  show F2 _ xs ys
  induction xs generalizing ys with
  | nil => cases ys with
    | nil => exact .nil
    | cons y ys => simp at hs
  | cons x xs ih => cases ys with
    | nil => simp at hs
    | cons y ys =>
      refine .cons (hc 0 (by simp) (by simp)) (ih ys (fun i h h' => ?_) (by simpa using hs))
      have := hc (i + 1) (by simpa using h) (by simpa using h')
      simpa using this

theorem LRel.length {ρ : Loc} {xs ys : List Value} (h : LRel ρ xs ys) : xs.length = ys.length := by
  induction h with
  | nil => rfl
  | cons _ _ ih => simp [ih]

theorem LRel.get {ρ : Loc} {xs ys : List Value} (h : LRel ρ xs ys) : ∀ (i : Nat) (x : Value), xs[i]? = some x → ∃ y, ys[i]? = some y ∧ VRel ρ x y := by
  induction h with
  | nil => intro i x hx; simp at hx
  | cons hxy _ ih =>
    intro i x hx
    cases i with
    | zero => simp at hx; subst hx; exact ⟨_, by simp, hxy⟩
    | succ i => simpa using ih i x (by simpa using hx)

theorem LRel.to_array {ρ : Loc} {xs ys : List Value} (h : LRel ρ xs ys) :
    xs.toArray.size = ys.toArray.size ∧ ∀ i (h : i < xs.toArray.size) (h' : i < ys.toArray.size), VRel ρ xs.toArray[i] ys.toArray[i] := by
  refine ⟨by simpa using h.length, fun i h1 h2 => ?_⟩
  obtain ⟨y, hy, hr⟩ := h.get i xs.toArray[i] (by simp)
  have : ys.toArray[i] = y := by
    have := List.getElem?_eq_some_iff.1 hy
    obtain ⟨_, e⟩ := this
    simpa using e
  rw [this]; exact hr

theorem LRel.mono {ρ ρ' : Loc} (hle : ρ.le ρ') {xs ys : List Value} (h : LRel ρ xs ys) : LRel ρ' xs ys := by
  induction h with
  | nil => exact .nil
  | cons hxy _ ih => exact .cons (hxy.mono hle) ih

theorem LRel.append {ρ : Loc} {xs ys xs' ys' : List Value} (h : LRel ρ xs ys) (h' : LRel ρ xs' ys') : LRel ρ (xs ++ xs') (ys ++ ys') := by
  induction h with
  | nil => simpa using h'
  | cons hxy _ ih => exact .cons hxy ih

theorem VRel.cells {ρ : Loc} {v v' : Value} (h : VRel ρ v v') : LRel ρ v.cells.toList v'.cells.toList := by
  cases h with
  | agg xs ys hs hc => exact LRel.of_array hs hc
  | tuple xs ys hs hc => exact .cons (.tuple xs ys hs hc) .nil
  | bool b => exact .cons (.bool b) .nil
  | int k n => exact .cons (.int k n) .nil
  | str s => exact .cons (.str s) .nil
  | pnil => exact .cons .pnil .nil
  | ptr k off p h => exact .cons (.ptr k off p h) .nil
  | snil => exact .cons .snil .nil
  | slice k off len cap p off' cap' h hl ha hc hs => exact .cons (.slice k off len cap p off' cap' h hl ha hc hs) .nil
  | mnil => exact .cons .mnil .nil
  | map k p h => exact .cons (.map k p h) .nil
  | fn f xs ys xs' ys' hx hy cx cy => exact .cons (.fn f xs ys xs' ys' hx hy cx cy) .nil
  | nilFunc => exact .cons .nilFunc .nil
  | iface t v v' h => exact .cons (.iface t v v' h) .nil
  | nilIface => exact .cons .nilIface .nil
  | any _ hv =>
    cases v' with
    | slice a l c => exact .cons (.any _ hv) .nil
    | string s => exact .cons (.any _ hv) .nil
    | _ => cases hv

/-- A value without an address, of one cell. -/
def plain1 : Value → Bool
  | .bool _ => true
  | .int _ _ => true
  | .string _ => true
  | .pointer none => true
  | .slice none 0 0 => true
  | .map none => true
  | .nilFunc => true
  | .nilIface => true
  | _ => false

theorem plain1_rel (ρ : Loc) {v : Value} (h : plain1 v = true) : VRel ρ v v := by
  unfold plain1 at h
  split at h <;> first | exact .bool _ | exact .int _ _ | exact .str _ | exact .pnil | exact .snil | exact .mnil | exact .nilFunc | exact .nilIface | cases h

theorem plain1_eq {ρ : Loc} {v v' : Value} (h : VRel ρ v v') (hp : plain1 v = true) : v' = v := by
  cases h <;> first | rfl | (simp [plain1] at hp)

noncomputable def allPlain (l : List Value) : Bool := @List.rec Value (fun _ => Bool) true (fun v _ ih => @Bool.rec (fun _ => Bool) false ih (plain1 v)) l
theorem allPlain_nil : allPlain [] = true := rfl
theorem allPlain_cons (v : Value) (l : List Value) : allPlain (v :: l) = (plain1 v && allPlain l) := by
  show @Bool.rec (fun _ => Bool) false (allPlain l) (plain1 v) = _
  cases plain1 v <;> rfl
theorem allPlain_mem {l : List Value} (h : allPlain l = true) : ∀ v ∈ l, plain1 v = true := by
  induction l with
  | nil => intro v hv; cases hv
  | cons x l ih =>
    rw [allPlain_cons] at h
    simp only [Bool.and_eq_true] at h
    intro v hv
    cases hv with
    | head => exact h.1
    | tail _ hv => exact ih h.2 v hv
theorem allPlain_rel (ρ : Loc) : ∀ {l : List Value}, allPlain l = true → LRel ρ l l := by
  intro l
  induction l with
  | nil => intro _; exact .nil
  | cons x l ih =>
    intro h
    rw [allPlain_cons] at h
    simp only [Bool.and_eq_true] at h
    exact .cons (plain1_rel ρ h.1) (ih h.2)
theorem allPlain_eq {ρ : Loc} {l l' : List Value} (h : LRel ρ l l') (hp : allPlain l = true) : l' = l := by
  induction h with
  | nil => rfl
  | cons hxy _ ih =>
    rw [allPlain_cons] at hp
    simp only [Bool.and_eq_true] at hp
    rw [plain1_eq hxy hp.1, ih hp.2]

/-- A value without an address. -/
noncomputable def plainV : Value → Bool
  | .agg cs => allPlain cs.toList
  | .tuple cs => allPlain cs.toList
  | v => plain1 v

theorem plainV_rel (ρ : Loc) {v : Value} (h : plainV v = true) : VRel ρ v v := by
  unfold plainV at h
  split at h
  · rename_i cs
    obtain ⟨h1, h2⟩ := (allPlain_rel ρ h).to_array
    exact .agg _ _ rfl (by simpa using h2)
  · rename_i cs
    obtain ⟨h1, h2⟩ := (allPlain_rel ρ h).to_array
    exact .tuple _ _ rfl (by simpa using h2)
  · exact plain1_rel ρ h

/-! ### The abstract heap -/

inductive AObj where
  | row (cells : Tr Value) (len : Nat) (elem : TypeId) (cls pos : Nat)
  | map (es : List MapEntry) (clock : Nat)
  | mapIter (m : Option Nat) (since : Nat) (seen : List Nat) (stepped : Nat)
  | strIter (s : ByteArray) (pos : Nat)
  | bag (es : List (Value × Value))

/-- The blocks that an append may have laid one upon the other: each with the place at which it ends; which places may be frozen ('ro': all). -/
structure ACls where
  stack : List (Nat × Nat)
  lo : Nat
  hi : Nat
  tail : Bool
  ro : Bool

/-- 'G': the blocks below it are the package-level variables. 'dfr': the deferred calls of the frame that runs, the latest first, each as a function value with its arguments ahead. -/
structure St where
  heap : Tr AObj
  next : Nat
  cls : Tr ACls
  G : Nat
  dfr : List Value

noncomputable def inStack (k : Nat) (l : List (Nat × Nat)) : Bool :=
  @List.rec (Nat × Nat) (fun _ => Bool) false (fun x _ ih => @Bool.rec (fun _ => Bool) ih true (Nat.beq x.1 k)) l
theorem inStack_cons (k : Nat) (x : Nat × Nat) (l : List (Nat × Nat)) : inStack k (x :: l) = (Nat.beq x.1 k || inStack k l) := by
  show @Bool.rec (fun _ => Bool) (inStack k l) true (Nat.beq x.1 k) = _
  cases Nat.beq x.1 k <;> rfl
theorem inStack_iff (k : Nat) (l : List (Nat × Nat)) : inStack k l = true ↔ ∃ e, (k, e) ∈ l := by
  induction l with
  | nil => simp [inStack]
  | cons x l ih =>
    rw [inStack_cons, Bool.or_eq_true, ih]
    constructor
    · rintro (h | ⟨e, h⟩)
      · have := Nat.eq_of_beq_eq_true h
        exact ⟨x.2, by subst this; simp⟩
      · exact ⟨e, by simp [h]⟩
    · rintro ⟨e, h⟩
      cases h with
      | head => left; exact Nat.beq_refl k
      | tail _ h => right; exact ⟨e, h⟩

/-- May block 'k' of class 'c' still be read? -/
noncomputable def St.valid (σ : St) (k c : Nat) : Bool := match σ.cls.get c with
  | none => true
  | some x => inStack k x.stack

/-- May the place 'p' be frozen? -/
def ACls.frozenAt (x : ACls) (p : Nat) : Prop := x.ro = true ∨ (x.lo ≤ p ∧ p < x.hi)
def St.maybeFrozen (σ : St) (c p : Nat) : Prop := ∃ x, σ.cls.get c = some x ∧ x.frozenAt p

structure ERel (ρ : Loc) (e e' : MapEntry) : Prop where
  key : VRel ρ e.key e'.key
  val : VRel ρ e.val e'.val
  born : e'.born = e.born

/-- The cells of a row of the abstract heap, in the world. -/
structure RowRel (ρ : Loc) (σ : St) (w : World) (k : Nat) (p : Pl) (cells : Tr Value) (len : Nat) (elem : TypeId) (cls pos : Nat) (c : Array Value) (fz : Nat × Nat) : Prop where
  at' : w.heap[p.b]? = some (.cells c elem fz)
  size : c.size = p.S
  within : p.o ≤ c.size
  holds : σ.valid k cls = true → p.o + len ≤ c.size ∧ ∀ i v, i < len → cells.get i = some v → ∃ v', c[p.o + i]? = some v' ∧ VRel ρ v v'
  free : ∀ i, p.o + i < c.size → ¬ σ.maybeFrozen cls (pos + i) → ¬ (fz.1 ≤ p.o + i ∧ p.o + i < fz.2)
  ends : ∀ x, σ.cls.get cls = some x → ∀ e, (k, e) ∈ x.stack → e = pos + len
  base : pos = 0 → p.o = 0

def MRel (ρ : Loc) : Option Nat → Option Nat → Prop
  | none, none => True
  | some r, some r' => ∃ p, ρ r = some p ∧ p.b = r'
  | _, _ => False

/-- What a block of the abstract heap says of the world. -/
def ORel (P : Program) (ρ : Loc) (σ : St) (w : World) (k : Nat) (p : Pl) : AObj → Prop
  | .row cells len elem cls pos => p.sz = P.cellsOf elem ∧ ∃ c fz, RowRel ρ σ w k p cells len elem cls pos c fz
  | .map es clock => ∃ es', w.heap[p.b]? = some (.map es' clock) ∧ F2 (ERel ρ) es es'.toList
  | .mapIter m since seen stepped => p.o = 0 ∧ ∃ m', w.heap[p.b]? = some (.mapIter m' since seen.toArray stepped) ∧ MRel ρ m m'
  | .strIter s pos => p.o = 0 ∧ w.heap[p.b]? = some (.stringIter s pos)
  | .bag es => ∃ es' clock es1, w.heap[p.b]? = some (.map es' clock) ∧ F2 (ERel ρ) es1 es'.toList ∧ (es1.map fun e => (e.key, e.val)).Perm es

/-- The class of a block, and its place in it. -/
def AObj.clsOf (k : Nat) : AObj → Nat
  | .row _ _ _ c _ => c
  | _ => k
def AObj.posOf : AObj → Nat
  | .row _ _ _ _ p => p
  | _ => 0

structure Rel (P : Program) (N : Nat) (ρ : Loc) (σ : St) (w : World) : Prop where
  dom : ∀ k p, ρ k = some p → p.b < w.heap.size ∧ k < σ.next ∧ ∀ ob, σ.heap.get k = some ob → (N ≤ p.b ∨ ∀ i, σ.maybeFrozen (ob.clsOf k) i)
  above : ∀ k ob, σ.heap.get k = some ob → k < σ.next ∧ ob.clsOf k < σ.next
  clsAbove : ∀ c x, σ.cls.get c = some x → c < σ.next ∧ ∀ k e, (k, e) ∈ x.stack → k < σ.next
  obj : ∀ k p ob, ρ k = some p → σ.heap.get k = some ob → ORel P ρ σ w k p ob
  sep : ∀ k k' p p' ob ob', ρ k = some p → ρ k' = some p' → p.b = p'.b → σ.heap.get k = some ob → σ.heap.get k' = some ob' →
    ob.clsOf k = ob'.clsOf k' ∧ p.o + ob'.posOf = p'.o + ob.posOf
  lone : ∀ k k' ob ob', σ.heap.get k = some ob → σ.heap.get k' = some ob' → ob.clsOf k = ob'.clsOf k' → σ.cls.get (ob.clsOf k) = none → k = k'
  glob : ∀ g, g < σ.G → ∃ p, ρ g = some p ∧ p.b = g ∧ p.o = 0
  size : N ≤ w.heap.size

/-- What a step leaves of the mapping: the old blocks where they were; no number is given out twice. -/
structure Grew (ρ ρ' : Loc) (σ σ' : St) : Prop where
  le : ρ.le ρ'
  old : ∀ j, j < σ.next → ρ' j = ρ j
  next : σ.next ≤ σ'.next

theorem Grew.same {ρ : Loc} {σ σ' : St} (h : σ'.next = σ.next) : Grew ρ ρ σ σ' := ⟨Loc.le_refl _, fun _ _ => rfl, Nat.le_of_eq h.symm⟩
theorem Grew.refl (ρ : Loc) (σ : St) : Grew ρ ρ σ σ := .same rfl
theorem Grew.trans {a b c : Loc} {s t u : St} (h : Grew a b s t) (k : Grew b c t u) : Grew a c s u :=
  ⟨Loc.le_trans h.le k.le, fun j hj => (k.old j (Nat.lt_of_lt_of_le hj h.next)).trans (h.old j hj), Nat.le_trans h.next k.next⟩

end Go.Ke
