/- Of package schema: every and first. No condition. -/
import Derived.Test.YtaikipdjknhjdaaGreatDoorFor
import Derived.Below
import Derived.ProofKit
import Derived.Deep.RegionHeld3
import Derived.OpenShut
import Derived.StillTailTactics
import Derived.Laws.Cover1
import Derived.Deep.CutRange
import Derived.Deep.RegionWith
import Derived.Deep.QuietTactic
import Derived.BigQuiet
namespace Go.Proofs
open Go.RowKit Go.Ke

theorem ex_alloc_size (w : World) (o : Obj) : (w.alloc o).heap.size = w.heap.size + 1 := by unfold World.alloc; simp
theorem below_next {w W w2 : World} (h : Below w.heap.size w W) (hb : Below W.heap.size W w2) : Below w.heap.size w w2 := h.trans (hb.mono h.size)

set_option maxRecDepth 20000 in
theorem Tryz.every28 (n : Nat) (b : Nat) (w : World) (hn : n ≤ 100) (hcall : ∀ (k : Nat), k < n → ∀ W : World, Below w.heap.size w W → Calls Tryz.prog 28 #[.int .i64 k, .pointer (some ⟨b, 0, none⟩)] W fun e w' => e = .returned (.int .i64 0) ∧ Below W.heap.size W w') :
    Calls Tryz.prog 27 #[.int .i64 n, .func (.func 28) #[] #[.pointer (some ⟨b, 0, none⟩)]] w fun e w' => e = .returned (.int .i64 0) ∧ Below w.heap.size w w' := by
  go_enter Tryz.func27, Tryz.ntmps27
  go_wp2_with fail
  go_loopw [8] (fun i wr => ∃ k : Nat, i = .int .i64 k ∧ k ≤ n ∧ Below w.heap.size w wr) (fun i _ => n - (intOf i).toNat)
  case atStart => exact ⟨0, rfl, Nat.zero_le _, Below.refl _ _⟩
  case round =>
    obtain ⟨k, rfl, hk, hwr⟩ := hrel
    by_cases hlt : k < n
    · have hk1 := hcall k hlt wr hwr
      go_wp2_with (first | (go_at_call 28; refine hk1.mono ?_; rintro e w2 ⟨rfl, hb⟩))
      go_roundw
      case rel => exact ⟨k + 1, by go_num, by omega, below_next hwr hb⟩
      case measure => simp [intOf]; omega
    · go_wp2_with fail
      go_ret
      exact ⟨rfl, hwr⟩

set_option maxRecDepth 20000 in
theorem Tryz.every31 (n : Nat) (b : Nat) (w : World) (hn : n ≤ 100) (hcall : ∀ (k : Nat), k < n → ∀ W : World, Below w.heap.size w W → Calls Tryz.prog 31 #[.int .i64 k, .pointer (some ⟨b, 0, none⟩)] W fun e w' => e = .returned (.int .i64 0) ∧ Below W.heap.size W w') :
    Calls Tryz.prog 27 #[.int .i64 n, .func (.func 31) #[] #[.pointer (some ⟨b, 0, none⟩)]] w fun e w' => e = .returned (.int .i64 0) ∧ Below w.heap.size w w' := by
  go_enter Tryz.func27, Tryz.ntmps27
  go_wp2_with fail
  go_loopw [8] (fun i wr => ∃ k : Nat, i = .int .i64 k ∧ k ≤ n ∧ Below w.heap.size w wr) (fun i _ => n - (intOf i).toNat)
  case atStart => exact ⟨0, rfl, Nat.zero_le _, Below.refl _ _⟩
  case round =>
    obtain ⟨k, rfl, hk, hwr⟩ := hrel
    by_cases hlt : k < n
    · have hk1 := hcall k hlt wr hwr
      go_wp2_with (first | (go_at_call 31; refine hk1.mono ?_; rintro e w2 ⟨rfl, hb⟩))
      go_roundw
      case rel => exact ⟨k + 1, by go_num, by omega, below_next hwr hb⟩
      case measure => simp [intOf]; omega
    · go_wp2_with fail
      go_ret
      exact ⟨rfl, hwr⟩

set_option maxRecDepth 20000 in
theorem Tryz.every32 (n : Nat) (b c : Nat) (w : World) (hn : n ≤ 100) (hcall : ∀ (k : Nat), k < n → ∀ W : World, Below w.heap.size w W → Calls Tryz.prog 32 #[.int .i64 k, .pointer (some ⟨b, 0, none⟩), .pointer (some ⟨c, 0, none⟩)] W fun e w' => e = .returned (.int .i64 0) ∧ Below W.heap.size W w') :
    Calls Tryz.prog 27 #[.int .i64 n, .func (.func 32) #[] #[.pointer (some ⟨b, 0, none⟩), .pointer (some ⟨c, 0, none⟩)]] w fun e w' => e = .returned (.int .i64 0) ∧ Below w.heap.size w w' := by
  go_enter Tryz.func27, Tryz.ntmps27
  go_wp2_with fail
  go_loopw [8] (fun i wr => ∃ k : Nat, i = .int .i64 k ∧ k ≤ n ∧ Below w.heap.size w wr) (fun i _ => n - (intOf i).toNat)
  case atStart => exact ⟨0, rfl, Nat.zero_le _, Below.refl _ _⟩
  case round =>
    obtain ⟨k, rfl, hk, hwr⟩ := hrel
    by_cases hlt : k < n
    · have hk1 := hcall k hlt wr hwr
      go_wp2_with (first | (go_at_call 32; refine hk1.mono ?_; rintro e w2 ⟨rfl, hb⟩))
      go_roundw
      case rel => exact ⟨k + 1, by go_num, by omega, below_next hwr hb⟩
      case measure => simp [intOf]; omega
    · go_wp2_with fail
      go_ret
      exact ⟨rfl, hwr⟩

end Go.Proofs
