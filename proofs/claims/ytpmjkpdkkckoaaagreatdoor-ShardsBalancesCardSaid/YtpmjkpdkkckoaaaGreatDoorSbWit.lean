/- ShardsBalances: closed facts of the world that its card's witness lays. No condition. -/
import Derived.Test.YtpmjkpdkkckoaaaGreatDoorSbLay
import Derived.ProofKit
import Derived.LaidMore
import Derived.SevenTiedAt
import Derived.OpenShut
import Derived.Lib.SmallJoins
namespace Go.Proofs.YtpmjkpdkkckoaaaGreatDoor.shardsBalances
open Go.ChangeShapes Go.WideShapes Go.ChangeAt Go.RowKit Go.Joins Go.Proofs.Big
set_option maxRecDepth 100000

theorem w_zip (os : Os) : ((wit os).forCall (fun _ _ => 0) ⟨#[], #[.slice none 0 0], []⟩).variablesZipB Tryz.prog = true := by kernel_rfl

theorem w_rows (os : Os) : (((wit os).forCall (fun _ _ => 0) ⟨#[], #[.slice none 0 0], []⟩).heap.toList.drop Tryz.prog.globals.size).take ((begin Tryz.prog (fun _ _ => 0) default).world.heap.size - Tryz.prog.globals.size) = (begin Tryz.prog (fun _ _ => 0) default).world.heap.toList.drop Tryz.prog.globals.size := by kernel_rfl

theorem w_ok (os : Os) : Input.okWideB Tryz.prog ((wit os).forCall (fun _ _ => 0) ⟨#[], #[.slice none 0 0], []⟩) 3 ⟨#[], #[.slice none 0 0], []⟩ = true := by kernel_rfl

theorem w_pre (os : Os) (H : Type) (enc : TypeId × Value → H) : Rows.shardsBalancesSpec.preB enc Tryz.prog Tryz.f3 Rows.shardsBalancesRow.domain false ((wit os).forCall (fun _ _ => 0) ⟨#[], #[.slice none 0 0], []⟩).memory #[.slice none 0 0] 8 = true := by kernel_rfl

theorem w_sized (os : Os) (H : Type) (enc : TypeId × Value → H) : Rows.shardsBalancesSpec.sizedB enc Tryz.prog Tryz.f3 false ((wit os).forCall (fun _ _ => 0) ⟨#[], #[.slice none 0 0], []⟩).memory #[.slice none 0 0] 8 = true := by kernel_rfl

theorem fits_of {P : Program} {w : World} {l : List (String × DataW Unit)} {B : List Nat} (y : List (Nat × List Value) × List Obj) (h : Lay.layList P w.heap.size l = some y)
    (hf : (decide (y.1.map (·.1)).Nodup && (y.1.all fun r => Lay.isRow w.heap.toList[r.1]? && !B.contains r.1) && B.all (· < w.heap.size)) = true) : w.layFits P l B = true := by
  unfold World.layFits
  rw [h]
  exact hf

theorem ifaces_of {P : Program} {w w' : World} {l : List (String × DataW Unit)} (y : List (Nat × List Value) × List Obj) (h : Lay.layList P w.heap.size l = some y)
    (hf : ((y.1.all fun r => r.2.all (Lay.okV P w')) && y.2.all (Lay.okO P w')) = true) : w.layIfaces P l w' = true := by
  unfold World.layIfaces
  rw [h]
  exact hf

theorem w_fits (os : Os) : (World.holding Tryz.prog os ⟨#[], #[], []⟩).layFits Tryz.prog Rows.shardsBalancesRow.laid [] = true :=
  fits_of (rowsY, objsY) (list_at os) (by kernel_rfl)

theorem w_ifaces (os : Os) : (World.holding Tryz.prog os ⟨#[], #[], []⟩).layIfaces Tryz.prog Rows.shardsBalancesRow.laid (World.laidAll Tryz.prog os Rows.shardsBalancesRow.laid) = true := by
  rw [wit_is os]
  exact ifaces_of (rowsY, objsY) (list_at os) (by kernel_rfl)

theorem w_os (os : Os) : (wit os).os = os := by
  rw [← wit_is os]
  exact World.laidAll_os _ _ _

theorem w_plain : (Rows.shardsBalancesRow.laid.all fun x => x.2.handleName?.isNone) = true := by kernel_rfl

theorem w_laid (os : Os) : laidMetH Tryz.prog Rows.shardsBalancesRow.laid ((wit os).forCall (fun _ _ => 0) ⟨#[], #[.slice none 0 0], []⟩).memory := by
  rw [MakeChecks.laidMetH_plain _ _ _ w_plain, ← wit_is os]
  exact laidMet_laidAll _ (w_fits os) (w_ifaces os)

theorem no_init : Tryz.prog.inits.idxOf? 3 = none := by kernel_rfl

end Go.Proofs.YtpmjkpdkkckoaaaGreatDoor.shardsBalances
