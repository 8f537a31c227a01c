/- The schema of the law as a state of the abstract run. No condition. -/
import Derived.Test.YtaikipdjknhjdaaGreatDoorRo
import Derived.Test.YtaikipdjknhjdaaGreatDoorGate
namespace Go.Ke
open Go.Proofs

noncomputable def upTo {α : Type} (f : Nat → List α) (n : Nat) : List α := @Nat.rec (fun _ => List α) [] (fun k ih => ih ++ f k) n

def nameL (j : Nat) : ByteArray := ⟨#[UInt8.ofNat (97 + j)]⟩
def idL : ByteArray := ⟨#[105, 100]⟩
def xL : ByteArray := ⟨#[120]⟩

/-- A table: its name, its columns, its key, its foreign keys, its indexes. -/
def tabCells (j : Nat) (F : Value) : List Value := [.string (nameL j), .slice (some ⟨Nat.succ (2 * j), 0, none⟩) 2 2, .slice (some ⟨Nat.succ (Nat.succ (2 * j)), 0, none⟩) 1 1, F, .slice none 0 0]

def colCells : List Value := [.string idL, .int .i64 2, .bool false, .int .i64 0, .int .i64 0, .string ⟨#[]⟩, .string xL, .int .i64 2, .bool true, .int .i64 0, .int .i64 0, .string ⟨#[]⟩]

noncomputable def rowA (elem : TypeId) (l : List Value) : RoA := ⟨elem, l.length, fillTr l 0 .nil⟩

/-- All tables, their columns and keys. 'F': their foreign keys. -/
noncomputable def baseA (n : Nat) (F : Nat → Value) : List RoA := rowA 39 (upTo (fun j => tabCells j (F j)) n) :: upTo (fun _ => [rowA 33 colCells, rowA 9 [.string idL]]) n

def sArg (n : Nat) : Value := .agg #[.slice (some ⟨0, 0, none⟩) n unk]

noncomputable def runs (f : FuncId) (args : List Value) (l : List RoA) : Option (Value × St) :=
  callRun Tryz.prog (fun _ _ _ => none) (fun _ _ => false) (codeRun Tryz.prog (fun _ _ _ => none) (fun _ _ => false) 1000000000000) f args (roSt l)

/-- The call hands back this number. -/
noncomputable def gives (z : Int) (r : Option (Value × St)) : Bool := match r with
  | some (.int .i64 x, _) => match x, z with
    | .ofNat a, .ofNat b => Nat.beq a b
    | _, _ => false
  | _ => false

theorem gives_calls {z : Nat} {f : FuncId} {args args' : List Value} {l : List RoA} (hg : gives z (runs f args l) = true) {bs : List Nat} {ρ : Loc} {w : World} (h : RoAt Tryz.prog l bs ρ w) (ha : LRel ρ args args') :
    Calls Tryz.prog f args'.toArray w fun e w' => e = .returned (.int .i64 z) ∧ Go.RowKit.Below w.heap.size w w' := by
  unfold gives at hg
  split at hg
  · rename_i x σ' hr
    split at hg
    · rename_i a b hb
      have := Nat.eq_of_beq_eq_true hg
      have hbz : b = z := Int.ofNat.inj hb.symm
      subst this
      subst hbz
      exact ro_calls tryz_mixed named_tryz h hr rfl ha
    · cases hg
  · cases hg

/-- A value of which nothing is known. -/
def anyA : Value := .chan none

noncomputable def below (p : Nat → Bool) (n : Nat) : Bool := @Nat.rec (fun _ => Bool) true (fun k ih => @Bool.rec (fun _ => Bool) false (p k) ih) n

theorem below_iff {p : Nat → Bool} : ∀ {n : Nat}, below p n = true → ∀ k, k < n → p k = true := by
  intro n
  induction n with
  | zero => intro _ k hk; cases hk
  | succ n ih =>
    intro h k hk
    have h' : @Bool.rec (fun _ => Bool) false (p n) (below p n) = true := h
    cases hb : below p n with
    | false => rw [hb] at h'; cases h'
    | true =>
      rw [hb] at h'
      by_cases e : k = n
      · rw [e]; exact h'
      · exact ih hb k (by omega)

/-- tableAt and TableAt -/
noncomputable def at16 (f n g : Nat) : Bool := gives g (runs f [sArg n, .string (nameL g)] (baseA n fun _ => anyA))

/-- foreign: table 'i' refers to table 'g'. -/
noncomputable def at33 (n i g : Nat) : Bool :=
  gives 0 (runs 33 [sArg n, .agg (tabCells i anyA).toArray, .agg #[anyA, .slice (some ⟨Nat.succ (2 * n), 0, none⟩) 1 1, .string (nameL g)]] (baseA n (fun _ => anyA) ++ [rowA 9 [.string xL]]))

/-- The foreign keys of one table: its slice, the blocks. -/
noncomputable def forF (n nf : Nat) : Value := match nf with
  | 0 => .slice none 0 0
  | nf => .slice (some ⟨Nat.succ (2 * n), 0, none⟩) nf unk

def forCells (n k : Nat) : List Value := [.string ⟨#[UInt8.ofNat (102 + k)]⟩, .slice (some ⟨Nat.succ (Nat.succ (2 * n)) + k, 0, none⟩) 1 1, anyA]

noncomputable def forA (n nf : Nat) : List RoA := match nf with
  | 0 => []
  | nf => rowA 42 (upTo (forCells n) nf) :: upTo (fun _ => [rowA 9 [.string xL]]) nf

/-- table: by itself. -/
noncomputable def at29 (n i nf : Nat) : Bool :=
  gives 0 (runs 29 [sArg n, .int .i64 i] (baseA n (fun j => @Bool.rec (fun _ => Value) anyA (forF n nf) (Nat.beq j i)) ++ forA n nf))

theorem all16 : below (fun m => below (at16 16 (Nat.succ m)) (Nat.succ m)) 6 = true := by kernel_rfl
theorem all20 : below (fun m => below (at16 20 (Nat.succ m)) (Nat.succ m)) 6 = true := by kernel_rfl
theorem all33a : below (fun m => below (fun i => below (at33 (Nat.succ m) i) (Nat.succ m)) (Nat.succ m)) 4 = true := by kernel_rfl

end Go.Ke
