/- Packages schema, store and sql: what 'stands' answers, in every world in which the library's table of white space and its table of the powers of ten read as they are laid. The conditions: these tables. -/
import Derived.Test.YtmnlcldhhlkpeaaGreatDoorKeR
import Derived.Test.YtmnlcldhhlkpeaaGreatDoorShelf
import Derived.Test.YtmnlcldhhlkpeaaGreatDoorChecked
import Derived.Recover
import Derived.Tactics
import Derived.Tactics2
namespace Go.Ke
open Go.RowKit (Below)
open Go.Proofs

def nums : LibNums := { noEscape := 327, makeNoZero := 328, countString := 261, indexByteString := 249, itoa := 58, fields := 267, u8 := 5, str := 9 }

/-- The parser's deferred closure, where nothing panics. -/
def idle (f : FuncId) (args : List Value) : Bool := match Nat.beq f 194, args with
  | true, [.pointer (some _), .pointer (some _)] => true
  | _, _ => false

def tabs (N : Nat) (w : World) : Prop :=
  Lib.TabBelow Tryz.prog N w "strings.asciiSpace" .u8 Lib.asciiSpaceTab ∧ Lib.TabBelow Tryz.prog N w "internal/strconv.uint64pow10" .u64 Lib.pow10Tab

theorem tabs_stable (N : Nat) : Stable N (tabs N) := fun _ _ h hJ => ⟨hJ.1.on h, hJ.2.on h⟩

theorem named_tryz : Named Tryz.prog := named_of (by kernel_rfl)

theorem nums_ok (N : Nat) : LibOK Tryz.prog (tabs N) nums where
  noEscape := ⟨_, Tryz.func327, by kernel_rfl, by kernel_rfl, by kernel_rfl, rfl⟩
  makeNoZero := ⟨_, _, ⟨_, Tryz.func328, by kernel_rfl, by kernel_rfl, by kernel_rfl, rfl⟩, by kernel_rfl⟩
  cells := by kernel_rfl
  countString := ⟨_, Tryz.func261, by kernel_rfl, by kernel_rfl, by kernel_rfl, rfl⟩
  indexByteString := ⟨_, Tryz.func249, by kernel_rfl, by kernel_rfl, by kernel_rfl, rfl⟩
  hasItoa := by kernel_rfl
  itoa := fun n h0 h1 w hJ => Tryz.strconv_Itoa n h0 h1 w hJ.2.here
  hasFields := by kernel_rfl
  fields := fun s w hs ha hJ => Tryz.strings_Fields s w hs ha hJ.1.here

theorem read_idle (p q : Addr) (w : World) :
    CallsD Tryz.prog 194 #[.pointer (some p), .pointer (some q)] .returning w fun e u' w' => e = .returned (.tuple #[]) ∧ u' = .returning ∧ w' = w := by
  refine callsD_of_wpS Tryz.func194 rfl fun c₀ cs hu => ?_
  apply wpS_seq
  apply wpS_region
  simp [wpOpsS, go_sem, recoverD, hu, Tryz.ntmps194, Exit.thenS]
  apply wpS_seq
  apply wpS_region
  simp [wpOpsS, go_sem, Exit.thenS]
  refine wpS_cond (t := false) (by simp [Act.eval, Array.replicate]) ?_
  simp only [Bool.false_eq_true, if_false]
  refine wpS_of_wp (wp_skip ?_)
  cases c₀
  simp_all [bodyPostS, results, Tryz.results194]

theorem idle_ok : DeferOK Tryz.prog idle := by
  intro f args h
  unfold idle at h
  split at h
  · rename_i hf
    have hf := Nat.eq_of_beq_eq_true hf
    subst hf
    refine ⟨⟨_, _, Tryz.func194, rfl⟩, fun ρ args' w ha => ?_⟩
    cases ha with
    | cons h1 t1 =>
      cases t1 with
      | cons h2 t2 =>
        cases t2
        cases h1
        cases h2
        exact (read_idle _ _ w).mono fun e u' w' he => ⟨⟨_, he.1⟩, he.2.1, he.2.2⟩
  · cases h

end Go.Ke
namespace Go.Proofs
open Go.Ke Go.RowKit

theorem tryz_mixed' : Tryz.prog.follows .mixedOrders = true := Checked.mixed Tryz.checked

set_option maxRecDepth 1000000 in
theorem stands_gate : gate Tryz.prog (libX nums) idle St.empty 14 = true := by kernel_rfl

theorem libX_stands : libX nums 14 [] St.empty = none := by kernel_rfl

set_option maxRecDepth 100000 in
theorem Tryz.stands_calls (w w0 : World) (hs : Lib.TabIs Tryz.prog w0 "strings.asciiSpace" .u8 Lib.asciiSpaceTab) (hp : Lib.TabIs Tryz.prog w0 "internal/strconv.uint64pow10" .u64 Lib.pow10Tab) (hb : Below w0.heap.size w0 w) :
    Calls Tryz.prog 14 #[] w fun e w' => e = .returned (.bool true) ∧ Below w.heap.size w w' :=
  gate_sound (tabs_stable w.heap.size) tryz_mixed' named_tryz idle_ok (libX_ok named_tryz (nums_ok w.heap.size)) libX_stands stands_gate (empty_rel w)
    ⟨Lib.tabBelow_of_tabIs (Lib.tabBelow_of_tabIs hs w hb), Lib.tabBelow_of_tabIs (Lib.tabBelow_of_tabIs hp w hb)⟩

end Go.Proofs
