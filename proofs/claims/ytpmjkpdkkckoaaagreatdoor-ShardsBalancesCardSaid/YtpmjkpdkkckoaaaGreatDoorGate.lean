/- Package shards: what 'clusters' answers, in every world in which the library's table of white space and its table of the powers of ten read as they are laid. The conditions: these tables. -/
import Derived.Test.YtpmjkpdkkckoaaaGreatDoorCkE
import Derived.Test.YtpmjkpdkkckoaaaGreatDoorCk0
import Derived.Test.YtpmjkpdkkckoaaaGreatDoorCk1
import Derived.Test.YtpmjkpdkkckoaaaGreatDoorCk2
import Derived.Test.YtpmjkpdkkckoaaaGreatDoorCk3
import Derived.Test.YtpmjkpdkkckoaaaGreatDoorCk4
import Derived.Test.YtpmjkpdkkckoaaaGreatDoorCk5
import Derived.Test.YtpmjkpdkkckoaaaGreatDoorCk6
import Derived.Test.YtpmjkpdkkckoaaaGreatDoorCk7
import Derived.Test.YtpmjkpdkkckoaaaGreatDoorCk8
import Derived.Test.YtpmjkpdkkckoaaaGreatDoorCk9
import Derived.Test.YtpmjkpdkkckoaaaGreatDoorCk10
import Derived.Test.YtpmjkpdkkckoaaaGreatDoorCk11
import Derived.Test.YtpmjkpdkkckoaaaGreatDoorCk12
import Derived.Test.YtpmjkpdkkckoaaaGreatDoorCk13
import Derived.Test.YtpmjkpdkkckoaaaGreatDoorShelfM
import Derived.Recover
import Derived.Tactics
import Derived.Tactics2
import Derived.BigQuiet
import Derived.Deep.QuietTactic
namespace Go.Proofs
open Go.RowKit (Below)

theorem tryz_mixed : Tryz.prog.follows .mixedOrders = true := by kernel_rfl

theorem Tryz.number (n : Int) (w : World) : Calls Tryz.prog 843 #[.int .i64 n] w fun e w' => ∃ v, e = .returned v ∧ v = .agg #[.int .i64 2, .int .i64 n, .string ⟨#[]⟩] ∧ Below w.heap.size w w' := by
  go_enter Tryz.func843, Tryz.ntmps843
  go_wp2
  refine bodyPost_ret (v := .agg #[.int .i64 2, .int .i64 n, .string ⟨#[]⟩]) (by simp [results, Tryz.results843, go_sem]) rfl ⟨_, rfl, rfl, (Below.refl _ _).alloc (Nat.le_refl _) _⟩

theorem Tryz.textOf (s : ByteArray) (w : World) : Calls Tryz.prog 182 #[.string s] w fun e w' => ∃ v, e = .returned v ∧ v = .agg #[.int .i64 3, .int .i64 0, .string s] ∧ Below w.heap.size w w' := by
  go_enter Tryz.func182, Tryz.ntmps182
  go_wp2
  refine bodyPost_ret (v := .agg #[.int .i64 3, .int .i64 0, .string s]) (by simp [results, Tryz.results182, go_sem]) rfl ⟨_, rfl, rfl, (Below.refl _ _).alloc (Nat.le_refl _) _⟩

end Go.Proofs
namespace Go.Ke
open Go.RowKit (Below)
open Go.Proofs

theorem named_tryz : Named Tryz.prog := named_of (by kernel_rfl)

theorem has843 : hasBody Tryz.prog 843 = true := by kernel_rfl
theorem has182 : hasBody Tryz.prog 182 = true := by kernel_rfl

set_option maxRecDepth 100000 in
instance quiet_ok : QuietOK Tryz.prog := ⟨fun f g args v w hq hg => by
  change (match Nat.beq f 843 with
  | true => some fun args => match args with
    | [.int .i64 n] => some (.agg #[.int .i64 2, .int .i64 n, .string ⟨#[]⟩])
    | _ => none
  | false => match Nat.beq f 182 with
    | true => some fun args => match args with
      | [.string s] => some (.agg #[.int .i64 3, .int .i64 0, .string s])
      | _ => none
    | false => none : Option (List Value → Option Value)) = some g at hq
  split at hq
  · rename_i hf
    have hf := Nat.eq_of_beq_eq_true hf
    subst hf
    cases hq
    simp only at hg
    split at hg
    · cases hg
      exact callSem_of named_tryz has843 (Tryz.number _ w)
    · cases hg
  · split at hq
    · rename_i hf
      have hf := Nat.eq_of_beq_eq_true hf
      subst hf
      cases hq
      simp only at hg
      split at hg
      · cases hg
        exact callSem_of named_tryz has182 (Tryz.textOf _ w)
      · cases hg
    · cases hq⟩

def tabs (N : Nat) (w : World) : Prop :=
  Lib.TabBelow Tryz.prog N w "strings.asciiSpace" .u8 Lib.asciiSpaceTab ∧ Lib.TabBelow Tryz.prog N w "internal/strconv.uint64pow10" .u64 Lib.pow10Tab

theorem tabs_stable (N : Nat) : Stable N (tabs N) := fun _ _ h hJ => ⟨hJ.1.on h, hJ.2.on h⟩

theorem nums_ok (N : Nat) : LibOK Tryz.prog (tabs N) nums where
  noEscape := ⟨_, Tryz.func63, by kernel_rfl, by kernel_rfl, by kernel_rfl, rfl⟩
  makeNoZero := ⟨_, _, ⟨_, Tryz.func425, by kernel_rfl, by kernel_rfl, by kernel_rfl, rfl⟩, by kernel_rfl⟩
  cells := by kernel_rfl
  countString := ⟨_, Tryz.func84, by kernel_rfl, by kernel_rfl, by kernel_rfl, rfl⟩
  indexByteString := ⟨_, Tryz.func300, by kernel_rfl, by kernel_rfl, by kernel_rfl, rfl⟩
  hasItoa := by kernel_rfl
  itoa := fun n h0 h1 w hJ => Tryz.strconv_Itoa n h0 h1 w hJ.2.here
  hasFields := by kernel_rfl
  fields := fun s w hs ha hJ => Tryz.strings_Fields s w hs ha hJ.1.here

end Go.Ke
namespace Go.Proofs
open Go.Ke Go.RowKit

open Go.Ke.Sh
set_option maxRecDepth 1000000

theorem lib_ok (N : Nat) : SummOK Tryz.prog N (tabs N) (libX nums) := libX_ok named_tryz (nums_ok N)

theorem with_ok {N : Nat} {l : List Chunk} (h : ∀ c ∈ l, ChunkOK Tryz.prog N (tabs N) c) : SummOK Tryz.prog N (tabs N) (orX (libX nums) (chunkX l)) := orX_ok (lib_ok N) (chunkX_ok h)

theorem run_ok {N : Nat} {l : List Chunk} {c : Chunk} (h : ∀ c ∈ l, ChunkOK Tryz.prog N (tabs N) c) (hr : chunkRun Tryz.prog (orX (libX nums) (chunkX l)) (fun _ _ => false) c = true) : ChunkOK Tryz.prog N (tabs N) c :=
  chunk_ok (tabs_stable N) tryz_mixed named_tryz noDefer (with_ok h) hr

theorem ok0 (N : Nat) : ChunkOK Tryz.prog N (tabs N) c0 := run_ok (fun _ h => by cases h) run0
theorem ok1 (N : Nat) : ChunkOK Tryz.prog N (tabs N) c1 := run_ok (List.forall_mem_singleton.mpr (ok0 N)) run1
theorem ok2 (N : Nat) : ChunkOK Tryz.prog N (tabs N) c2 := run_ok (fun _ h => by cases h) run2
theorem ok3 (N : Nat) : ChunkOK Tryz.prog N (tabs N) c3 := run_ok (List.forall_mem_singleton.mpr (ok2 N)) run3
theorem ok4 (N : Nat) : ChunkOK Tryz.prog N (tabs N) c4 := run_ok (List.forall_mem_singleton.mpr (ok3 N)) run4
theorem ok5 (N : Nat) : ChunkOK Tryz.prog N (tabs N) c5 := run_ok (List.forall_mem_singleton.mpr (ok4 N)) run5
theorem ok6 (N : Nat) : ChunkOK Tryz.prog N (tabs N) c6 := run_ok (fun _ h => by cases h) run6
theorem ok7 (N : Nat) : ChunkOK Tryz.prog N (tabs N) c7 := run_ok (fun _ h => by cases h) run7
theorem ok8 (N : Nat) : ChunkOK Tryz.prog N (tabs N) c8 := run_ok (fun _ h => by cases h) run8
theorem ok9 (N : Nat) : ChunkOK Tryz.prog N (tabs N) c9 := run_ok (List.forall_mem_cons.mpr ⟨ok6 N, List.forall_mem_cons.mpr ⟨ok7 N, List.forall_mem_singleton.mpr (ok8 N)⟩⟩) run9
theorem ok10 (N : Nat) : ChunkOK Tryz.prog N (tabs N) c10 := run_ok (fun _ h => by cases h) run10
theorem ok11 (N : Nat) : ChunkOK Tryz.prog N (tabs N) c11 := run_ok (fun _ h => by cases h) run11
theorem ok12 (N : Nat) : ChunkOK Tryz.prog N (tabs N) c12 := run_ok (fun _ h => by cases h) run12
theorem ok13 (N : Nat) : ChunkOK Tryz.prog N (tabs N) c13 := run_ok (List.forall_mem_cons.mpr ⟨ok10 N, List.forall_mem_cons.mpr ⟨ok11 N, List.forall_mem_singleton.mpr (ok12 N)⟩⟩) run13

theorem allE (N : Nat) : ∀ c ∈ [c1, c5, c9, c13], ChunkOK Tryz.prog N (tabs N) c := List.forall_mem_cons.mpr ⟨ok1 N, List.forall_mem_cons.mpr ⟨ok5 N, List.forall_mem_cons.mpr ⟨ok9 N, List.forall_mem_singleton.mpr (ok13 N)⟩⟩⟩

theorem notE : orX (libX nums) (chunkX [c1, c5, c9, c13]) 12 [] St.empty = none := by kernel_rfl

/-- clusters() answers true in every world in which two tables of the library read as they are laid. -/
theorem Tryz.clusters_calls (w w0 : World) (hs : Lib.TabIs Tryz.prog w0 "strings.asciiSpace" .u8 Lib.asciiSpaceTab) (hp : Lib.TabIs Tryz.prog w0 "internal/strconv.uint64pow10" .u64 Lib.pow10Tab) (hb : Below w0.heap.size w0 w) :
    Calls Tryz.prog 12 #[] w fun e w' => e = .returned (.bool true) ∧ Below w.heap.size w w' :=
  gate_sound (tabs_stable w.heap.size) tryz_mixed named_tryz noDefer (with_ok (allE w.heap.size)) notE runE (empty_rel w)
    ⟨Lib.tabBelow_of_tabIs (Lib.tabBelow_of_tabIs hs w hb), Lib.tabBelow_of_tabIs (Lib.tabBelow_of_tabIs hp w hb)⟩

end Go.Proofs
