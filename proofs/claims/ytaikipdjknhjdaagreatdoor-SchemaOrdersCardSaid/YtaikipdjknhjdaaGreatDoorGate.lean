/- Package schema: what 'schemas' answers, in every world in which the library's table of white space and its table of the powers of ten read as they are laid. The conditions: these tables. -/
import Derived.Test.YtaikipdjknhjdaaGreatDoorKeR
import Derived.Test.YtaikipdjknhjdaaGreatDoorShelf
import Derived.Recover
import Derived.Tactics
import Derived.Tactics2
import Derived.BigQuiet
import Derived.Deep.QuietTactic
namespace Go.Proofs
open Go.RowKit (Below)

theorem tryz_mixed : Tryz.prog.follows .mixedOrders = true := by kernel_rfl

theorem Tryz.number (n : Int) (w : World) : Calls Tryz.prog 203 #[.int .i64 n] w fun e w' => ∃ v, e = .returned v ∧ v = .agg #[.int .i64 2, .int .i64 n, .string ⟨#[]⟩] ∧ Below w.heap.size w w' := by
  go_enter Tryz.func203, Tryz.ntmps203
  go_wp2
  refine bodyPost_ret (v := .agg #[.int .i64 2, .int .i64 n, .string ⟨#[]⟩]) (by simp [results, Tryz.results203, go_sem]) rfl ⟨_, rfl, rfl, (Below.refl _ _).alloc (Nat.le_refl _) _⟩

theorem Tryz.textOf (s : ByteArray) (w : World) : Calls Tryz.prog 144 #[.string s] w fun e w' => ∃ v, e = .returned v ∧ v = .agg #[.int .i64 3, .int .i64 0, .string s] ∧ Below w.heap.size w w' := by
  go_enter Tryz.func144, Tryz.ntmps144
  go_wp2
  refine bodyPost_ret (v := .agg #[.int .i64 3, .int .i64 0, .string s]) (by simp [results, Tryz.results144, go_sem]) rfl ⟨_, rfl, rfl, (Below.refl _ _).alloc (Nat.le_refl _) _⟩

end Go.Proofs
namespace Go.Ke
open Go.RowKit (Below)
open Go.Proofs

def nums : LibNums := { noEscape := 314, makeNoZero := 315, countString := 297, indexByteString := 343, itoa := 225, fields := 140, u8 := 5, str := 9 }

/-- 'number' and 'textOf' of package schema: they make a block and hand back a value. -/
instance quiet : Quiet := ⟨fun f => match Nat.beq f 203 with
  | true => some fun args => match args with
    | [.int .i64 n] => some (.agg #[.int .i64 2, .int .i64 n, .string ⟨#[]⟩])
    | _ => none
  | false => match Nat.beq f 144 with
    | true => some fun args => match args with
      | [.string s] => some (.agg #[.int .i64 3, .int .i64 0, .string s])
      | _ => none
    | false => none⟩

theorem named_tryz : Named Tryz.prog := named_of (by kernel_rfl)

theorem has203 : hasBody Tryz.prog 203 = true := by kernel_rfl
theorem has144 : hasBody Tryz.prog 144 = true := by kernel_rfl

set_option maxRecDepth 100000 in
instance quiet_ok : QuietOK Tryz.prog := ⟨fun f g args v w hq hg => by
  change (match Nat.beq f 203 with
  | true => some fun args => match args with
    | [.int .i64 n] => some (.agg #[.int .i64 2, .int .i64 n, .string ⟨#[]⟩])
    | _ => none
  | false => match Nat.beq f 144 with
    | true => some fun args => match args with
      | [.string s] => some (.agg #[.int .i64 3, .int .i64 0, .string s])
      | _ => none
    | false => none : Option (List Value → Option Value)) = some g at hq
  split at hq
  · rename_i hf
    have hf := Nat.eq_of_beq_eq_true hf
    subst hf
    cases hq
    simp only at hg
    split at hg
    · cases hg
      exact callSem_of named_tryz has203 (Tryz.number _ w)
    · cases hg
  · split at hq
    · rename_i hf
      have hf := Nat.eq_of_beq_eq_true hf
      subst hf
      cases hq
      simp only at hg
      split at hg
      · cases hg
        exact callSem_of named_tryz has144 (Tryz.textOf _ w)
      · cases hg
    · cases hq⟩

def tabs (N : Nat) (w : World) : Prop :=
  Lib.TabBelow Tryz.prog N w "strings.asciiSpace" .u8 Lib.asciiSpaceTab ∧ Lib.TabBelow Tryz.prog N w "internal/strconv.uint64pow10" .u64 Lib.pow10Tab

theorem tabs_stable (N : Nat) : Stable N (tabs N) := fun _ _ h hJ => ⟨hJ.1.on h, hJ.2.on h⟩

theorem nums_ok (N : Nat) : LibOK Tryz.prog (tabs N) nums where
  noEscape := ⟨_, Tryz.func314, by kernel_rfl, by kernel_rfl, by kernel_rfl, rfl⟩
  makeNoZero := ⟨_, _, ⟨_, Tryz.func315, by kernel_rfl, by kernel_rfl, by kernel_rfl, rfl⟩, by kernel_rfl⟩
  cells := by kernel_rfl
  countString := ⟨_, Tryz.func297, by kernel_rfl, by kernel_rfl, by kernel_rfl, rfl⟩
  indexByteString := ⟨_, Tryz.func343, by kernel_rfl, by kernel_rfl, by kernel_rfl, rfl⟩
  hasItoa := by kernel_rfl
  itoa := fun n h0 h1 w hJ => Tryz.strconv_Itoa n h0 h1 w hJ.2.here
  hasFields := by kernel_rfl
  fields := fun s w hs ha hJ => Tryz.strings_Fields s w hs ha hJ.1.here

end Go.Ke
namespace Go.Proofs
open Go.Ke Go.RowKit

set_option maxRecDepth 1000000 in
theorem schemas_gate : gate Tryz.prog (libX nums) (fun _ _ => false) St.empty 8 = true := by kernel_rfl

theorem libX_schemas : libX nums 8 [] St.empty = none := by kernel_rfl

set_option maxRecDepth 100000 in
theorem Tryz.schemas_calls (w w0 : World) (hs : Lib.TabIs Tryz.prog w0 "strings.asciiSpace" .u8 Lib.asciiSpaceTab) (hp : Lib.TabIs Tryz.prog w0 "internal/strconv.uint64pow10" .u64 Lib.pow10Tab) (hb : Below w0.heap.size w0 w) :
    Calls Tryz.prog 8 #[] w fun e w' => e = .returned (.bool true) ∧ Below w.heap.size w w' :=
  gate_sound (tabs_stable w.heap.size) tryz_mixed named_tryz noDefer (libX_ok named_tryz (nums_ok w.heap.size)) libX_schemas schemas_gate (empty_rel w)
    ⟨Lib.tabBelow_of_tabIs (Lib.tabBelow_of_tabIs hs w hb), Lib.tabBelow_of_tabIs (Lib.tabBelow_of_tabIs hp w hb)⟩

end Go.Proofs
