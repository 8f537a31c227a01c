/- ShardsBalances: closed facts of its row and of its program, each by itself. No condition. -/
import Derived.Test.YtpmjkpdkkckoaaaGreatDoorSbProg
import Derived.Test.YtpmjkpdkkckoaaaGreatDoorCards
import Derived.Test.YtpmjkpdkkckoaaaGreatDoorChecked
import Derived.JoinedOf
import Derived.SevenTiedAt
import Derived.KernelRfl
namespace Go.Proofs.YtpmjkpdkkckoaaaGreatDoor.shardsBalances
open Go Go.ChangeShapes Go.WideShapes Go.Proofs.Big

theorem bind_look {α β : Type} (o : Option α) (q : α → Option β) : o.bind q = (o.map q).bind id := by cases o <;> rfl

theorem place_look (g : Nat) : ((Tryz.prog.funcs[g]?).bind fun fn => if fn.ours || fn.body.isNone || fn.name == "runtime.NumGoroutine" then some fn.name else none) = (Big.look plas 34 g).bind id := by
  rw [← table placeF place_all (by kernel_rfl) g]
  exact bind_look _ placeF

theorem read_look (g : Nat) : ((Tryz.prog.funcs[g]?).bind fun fn => if fn.body.isNone then entryReads.lookup fn.name else none) = (Big.look reas 34 g).bind id := by
  rw [← table readF read_all (by kernel_rfl) g]
  exact bind_look _ readF

theorem glob_look (g : Nat) : ((Tryz.prog.funcs[g]?).bind (·.body)).elim [] Code.globalsNamed = (Big.look glos 34 g).getD [] := by
  rw [← table globF glob_all (by kernel_rfl) g]
  cases Tryz.prog.funcs[g]? <;> rfl

theorem place_at : (Rows.shardsBalancesRow.inPlace == reached.filterMap fun g => (Big.look plas 34 g).bind id) = true := by kernel_rfl

theorem f_inPlace : (Rows.shardsBalancesRow.inPlace == Tryz.prog.inPlace 3) = true := by
  unfold Program.inPlace
  rw [reached_is, show (fun g => ((Tryz.prog.funcs[g]?).bind fun fn => if fn.ours || fn.body.isNone || fn.name == "runtime.NumGoroutine" then some fn.name else none)) = fun g => (Big.look plas 34 g).bind id from funext place_look]
  exact place_at

theorem named_at : (Rows.shardsBalancesRow.named == (((reached.flatMap fun g => (Big.look glos 34 g).getD []).eraseDups).filterMap (fun g => (Tryz.prog.globals[g]?).map (·.name)) ++ reached.filterMap fun g => (Big.look reas 34 g).bind id).eraseDups) = true := by kernel_rfl

theorem f_named : (Rows.shardsBalancesRow.named == Tryz.prog.varsNamed 3) = true := by
  unfold Program.varsNamed
  rw [reached_is, show (fun g => ((Tryz.prog.funcs[g]?).bind (·.body)).elim [] Code.globalsNamed) = fun g => (Big.look glos 34 g).getD [] from funext glob_look,
    show (fun g => ((Tryz.prog.funcs[g]?).bind fun fn => if fn.body.isNone then entryReads.lookup fn.name else none)) = fun g => (Big.look reas 34 g).bind id from funext read_look]
  exact named_at

theorem mem308 : reached.contains 308 = true := by kernel_rfl

theorem unf308 : ((some Tryz.f308 : Option Func).any fun fn => match fn.body with | some c => c.unfollowed | none => entryCalls fn) = true := by kernel_rfl

theorem unfollowed_is : Tryz.prog.unfollowed 3 = true := by
  unfold Program.unfollowed
  rw [reached_is]
  exact List.any_eq_true.2 ⟨308, List.contains_iff_mem.1 mem308, by rw [Tryz.func308]; exact unf308⟩

theorem f_unfollowed : (Rows.shardsBalancesRow.unfollowed == Tryz.prog.unfollowed 3) = true := by
  rw [unfollowed_is]
  kernel_rfl

theorem f_recurses : (Rows.shardsBalancesRow.recurses == Tryz.prog.recurses 3) = true := by
  unfold Program.recurses
  rw [unfollowed_is, Bool.true_or]
  kernel_rfl

end Go.Proofs.YtpmjkpdkkckoaaaGreatDoor.shardsBalances

namespace Go.Proofs.YtpmjkpdkkckoaaaGreatDoor.shardsBalances
open Go Go.ChangeShapes Go.WideShapes Go.Proofs.Big
set_option maxRecDepth 100000

/-! ### Nothing is stopped -/
theorem her0 : fs0.all (fun fn => !fn.norace) = true := by kernel_rfl
theorem her1 : fs1.all (fun fn => !fn.norace) = true := by kernel_rfl
theorem her2 : fs2.all (fun fn => !fn.norace) = true := by kernel_rfl
theorem her3 : fs3.all (fun fn => !fn.norace) = true := by kernel_rfl
theorem her4 : fs4.all (fun fn => !fn.norace) = true := by kernel_rfl
theorem her5 : fs5.all (fun fn => !fn.norace) = true := by kernel_rfl
theorem her6 : fs6.all (fun fn => !fn.norace) = true := by kernel_rfl
theorem her7 : fs7.all (fun fn => !fn.norace) = true := by kernel_rfl
theorem her8 : fs8.all (fun fn => !fn.norace) = true := by kernel_rfl
theorem her9 : fs9.all (fun fn => !fn.norace) = true := by kernel_rfl
theorem her10 : fs10.all (fun fn => !fn.norace) = true := by kernel_rfl
theorem her11 : fs11.all (fun fn => !fn.norace) = true := by kernel_rfl
theorem her12 : fs12.all (fun fn => !fn.norace) = true := by kernel_rfl
theorem her13 : fs13.all (fun fn => !fn.norace) = true := by kernel_rfl
theorem her14 : fs14.all (fun fn => !fn.norace) = true := by kernel_rfl
theorem her15 : fs15.all (fun fn => !fn.norace) = true := by kernel_rfl
theorem her16 : fs16.all (fun fn => !fn.norace) = true := by kernel_rfl
theorem her17 : fs17.all (fun fn => !fn.norace) = true := by kernel_rfl
theorem her18 : fs18.all (fun fn => !fn.norace) = true := by kernel_rfl
theorem her19 : fs19.all (fun fn => !fn.norace) = true := by kernel_rfl
theorem her20 : fs20.all (fun fn => !fn.norace) = true := by kernel_rfl
theorem her21 : fs21.all (fun fn => !fn.norace) = true := by kernel_rfl
theorem her22 : fs22.all (fun fn => !fn.norace) = true := by kernel_rfl
theorem her23 : fs23.all (fun fn => !fn.norace) = true := by kernel_rfl
theorem her24 : fs24.all (fun fn => !fn.norace) = true := by kernel_rfl
theorem her25 : fs25.all (fun fn => !fn.norace) = true := by kernel_rfl
theorem her26 : fs26.all (fun fn => !fn.norace) = true := by kernel_rfl
theorem her27 : fs27.all (fun fn => !fn.norace) = true := by kernel_rfl
theorem her28 : fs28.all (fun fn => !fn.norace) = true := by kernel_rfl
theorem her29 : fs29.all (fun fn => !fn.norace) = true := by kernel_rfl
theorem her30 : fs30.all (fun fn => !fn.norace) = true := by kernel_rfl
theorem her31 : fs31.all (fun fn => !fn.norace) = true := by kernel_rfl
theorem her32 : fs32.all (fun fn => !fn.norace) = true := by kernel_rfl
theorem her33 : fs33.all (fun fn => !fn.norace) = true := by kernel_rfl

theorem heard : Tryz.prog.stopsHeard = true := by
  unfold Program.stopsHeard
  rw [← Array.all_toList]
  have h : Tryz.prog.funcs.toList.all (fun fn => !fn.norace) = true := all_all _ her0 her1 her2 her3 her4 her5 her6 her7 her8 her9 her10 her11 her12 her13 her14 her15 her16 her17 her18 her19 her20 her21 her22 her23 her24 her25 her26 her27 her28 her29 her30 her31 her32 her33
  rw [List.all_eq_true] at h ⊢
  intro x hx
  rw [h x hx, Bool.or_true]

/-! ### It may be entered -/
theorem lat0 : fs0.all (fun fn => !(fn.body.isNone && (fn.name == "runtime.SetFinalizer" || fn.name == "runtime.AddCleanup" || fn.origin == "runtime.AddCleanup"))) = true := by kernel_rfl
theorem lat1 : fs1.all (fun fn => !(fn.body.isNone && (fn.name == "runtime.SetFinalizer" || fn.name == "runtime.AddCleanup" || fn.origin == "runtime.AddCleanup"))) = true := by kernel_rfl
theorem lat2 : fs2.all (fun fn => !(fn.body.isNone && (fn.name == "runtime.SetFinalizer" || fn.name == "runtime.AddCleanup" || fn.origin == "runtime.AddCleanup"))) = true := by kernel_rfl
theorem lat3 : fs3.all (fun fn => !(fn.body.isNone && (fn.name == "runtime.SetFinalizer" || fn.name == "runtime.AddCleanup" || fn.origin == "runtime.AddCleanup"))) = true := by kernel_rfl
theorem lat4 : fs4.all (fun fn => !(fn.body.isNone && (fn.name == "runtime.SetFinalizer" || fn.name == "runtime.AddCleanup" || fn.origin == "runtime.AddCleanup"))) = true := by kernel_rfl
theorem lat5 : fs5.all (fun fn => !(fn.body.isNone && (fn.name == "runtime.SetFinalizer" || fn.name == "runtime.AddCleanup" || fn.origin == "runtime.AddCleanup"))) = true := by kernel_rfl
theorem lat6 : fs6.all (fun fn => !(fn.body.isNone && (fn.name == "runtime.SetFinalizer" || fn.name == "runtime.AddCleanup" || fn.origin == "runtime.AddCleanup"))) = true := by kernel_rfl
theorem lat7 : fs7.all (fun fn => !(fn.body.isNone && (fn.name == "runtime.SetFinalizer" || fn.name == "runtime.AddCleanup" || fn.origin == "runtime.AddCleanup"))) = true := by kernel_rfl
theorem lat8 : fs8.all (fun fn => !(fn.body.isNone && (fn.name == "runtime.SetFinalizer" || fn.name == "runtime.AddCleanup" || fn.origin == "runtime.AddCleanup"))) = true := by kernel_rfl
theorem lat9 : fs9.all (fun fn => !(fn.body.isNone && (fn.name == "runtime.SetFinalizer" || fn.name == "runtime.AddCleanup" || fn.origin == "runtime.AddCleanup"))) = true := by kernel_rfl
theorem lat10 : fs10.all (fun fn => !(fn.body.isNone && (fn.name == "runtime.SetFinalizer" || fn.name == "runtime.AddCleanup" || fn.origin == "runtime.AddCleanup"))) = true := by kernel_rfl
theorem lat11 : fs11.all (fun fn => !(fn.body.isNone && (fn.name == "runtime.SetFinalizer" || fn.name == "runtime.AddCleanup" || fn.origin == "runtime.AddCleanup"))) = true := by kernel_rfl
theorem lat12 : fs12.all (fun fn => !(fn.body.isNone && (fn.name == "runtime.SetFinalizer" || fn.name == "runtime.AddCleanup" || fn.origin == "runtime.AddCleanup"))) = true := by kernel_rfl
theorem lat13 : fs13.all (fun fn => !(fn.body.isNone && (fn.name == "runtime.SetFinalizer" || fn.name == "runtime.AddCleanup" || fn.origin == "runtime.AddCleanup"))) = true := by kernel_rfl
theorem lat14 : fs14.all (fun fn => !(fn.body.isNone && (fn.name == "runtime.SetFinalizer" || fn.name == "runtime.AddCleanup" || fn.origin == "runtime.AddCleanup"))) = true := by kernel_rfl
theorem lat15 : fs15.all (fun fn => !(fn.body.isNone && (fn.name == "runtime.SetFinalizer" || fn.name == "runtime.AddCleanup" || fn.origin == "runtime.AddCleanup"))) = true := by kernel_rfl
theorem lat16 : fs16.all (fun fn => !(fn.body.isNone && (fn.name == "runtime.SetFinalizer" || fn.name == "runtime.AddCleanup" || fn.origin == "runtime.AddCleanup"))) = true := by kernel_rfl
theorem lat17 : fs17.all (fun fn => !(fn.body.isNone && (fn.name == "runtime.SetFinalizer" || fn.name == "runtime.AddCleanup" || fn.origin == "runtime.AddCleanup"))) = true := by kernel_rfl
theorem lat18 : fs18.all (fun fn => !(fn.body.isNone && (fn.name == "runtime.SetFinalizer" || fn.name == "runtime.AddCleanup" || fn.origin == "runtime.AddCleanup"))) = true := by kernel_rfl
theorem lat19 : fs19.all (fun fn => !(fn.body.isNone && (fn.name == "runtime.SetFinalizer" || fn.name == "runtime.AddCleanup" || fn.origin == "runtime.AddCleanup"))) = true := by kernel_rfl
theorem lat20 : fs20.all (fun fn => !(fn.body.isNone && (fn.name == "runtime.SetFinalizer" || fn.name == "runtime.AddCleanup" || fn.origin == "runtime.AddCleanup"))) = true := by kernel_rfl
theorem lat21 : fs21.all (fun fn => !(fn.body.isNone && (fn.name == "runtime.SetFinalizer" || fn.name == "runtime.AddCleanup" || fn.origin == "runtime.AddCleanup"))) = true := by kernel_rfl
theorem lat22 : fs22.all (fun fn => !(fn.body.isNone && (fn.name == "runtime.SetFinalizer" || fn.name == "runtime.AddCleanup" || fn.origin == "runtime.AddCleanup"))) = true := by kernel_rfl
theorem lat23 : fs23.all (fun fn => !(fn.body.isNone && (fn.name == "runtime.SetFinalizer" || fn.name == "runtime.AddCleanup" || fn.origin == "runtime.AddCleanup"))) = true := by kernel_rfl
theorem lat24 : fs24.all (fun fn => !(fn.body.isNone && (fn.name == "runtime.SetFinalizer" || fn.name == "runtime.AddCleanup" || fn.origin == "runtime.AddCleanup"))) = true := by kernel_rfl
theorem lat25 : fs25.all (fun fn => !(fn.body.isNone && (fn.name == "runtime.SetFinalizer" || fn.name == "runtime.AddCleanup" || fn.origin == "runtime.AddCleanup"))) = true := by kernel_rfl
theorem lat26 : fs26.all (fun fn => !(fn.body.isNone && (fn.name == "runtime.SetFinalizer" || fn.name == "runtime.AddCleanup" || fn.origin == "runtime.AddCleanup"))) = true := by kernel_rfl
theorem lat27 : fs27.all (fun fn => !(fn.body.isNone && (fn.name == "runtime.SetFinalizer" || fn.name == "runtime.AddCleanup" || fn.origin == "runtime.AddCleanup"))) = true := by kernel_rfl
theorem lat28 : fs28.all (fun fn => !(fn.body.isNone && (fn.name == "runtime.SetFinalizer" || fn.name == "runtime.AddCleanup" || fn.origin == "runtime.AddCleanup"))) = true := by kernel_rfl
theorem lat29 : fs29.all (fun fn => !(fn.body.isNone && (fn.name == "runtime.SetFinalizer" || fn.name == "runtime.AddCleanup" || fn.origin == "runtime.AddCleanup"))) = true := by kernel_rfl
theorem lat30 : fs30.all (fun fn => !(fn.body.isNone && (fn.name == "runtime.SetFinalizer" || fn.name == "runtime.AddCleanup" || fn.origin == "runtime.AddCleanup"))) = true := by kernel_rfl
theorem lat31 : fs31.all (fun fn => !(fn.body.isNone && (fn.name == "runtime.SetFinalizer" || fn.name == "runtime.AddCleanup" || fn.origin == "runtime.AddCleanup"))) = true := by kernel_rfl
theorem lat32 : fs32.all (fun fn => !(fn.body.isNone && (fn.name == "runtime.SetFinalizer" || fn.name == "runtime.AddCleanup" || fn.origin == "runtime.AddCleanup"))) = true := by kernel_rfl
theorem lat33 : fs33.all (fun fn => !(fn.body.isNone && (fn.name == "runtime.SetFinalizer" || fn.name == "runtime.AddCleanup" || fn.origin == "runtime.AddCleanup"))) = true := by kernel_rfl

theorem not_any {α : Type} (l : List α) (q : α → Bool) (h : l.all (fun x => !q x) = true) : l.any q = false := by
  rw [List.any_eq_false]
  intro x hx
  have := List.all_eq_true.1 h x hx
  simpa using this

theorem later_not : Tryz.prog.laysLater = false := by
  unfold Program.laysLater
  rw [← Array.any_toList]
  exact not_any _ _ (all_all _ lat0 lat1 lat2 lat3 lat4 lat5 lat6 lat7 lat8 lat9 lat10 lat11 lat12 lat13 lat14 lat15 lat16 lat17 lat18 lat19 lat20 lat21 lat22 lat23 lat24 lat25 lat26 lat27 lat28 lat29 lat30 lat31 lat32 lat33)

theorem refl0 : fs0.all (fun fn => !(fn.body.isNone && (opensWith (nameBytes "reflect.") (nameBytes fn.name) || opensWith (nameBytes "(reflect.") (nameBytes fn.name) || opensWith (nameBytes "(*reflect.") (nameBytes fn.name)))) = true := by kernel_rfl
theorem refl1 : fs1.all (fun fn => !(fn.body.isNone && (opensWith (nameBytes "reflect.") (nameBytes fn.name) || opensWith (nameBytes "(reflect.") (nameBytes fn.name) || opensWith (nameBytes "(*reflect.") (nameBytes fn.name)))) = true := by kernel_rfl
theorem refl2 : fs2.all (fun fn => !(fn.body.isNone && (opensWith (nameBytes "reflect.") (nameBytes fn.name) || opensWith (nameBytes "(reflect.") (nameBytes fn.name) || opensWith (nameBytes "(*reflect.") (nameBytes fn.name)))) = true := by kernel_rfl
theorem refl3 : fs3.all (fun fn => !(fn.body.isNone && (opensWith (nameBytes "reflect.") (nameBytes fn.name) || opensWith (nameBytes "(reflect.") (nameBytes fn.name) || opensWith (nameBytes "(*reflect.") (nameBytes fn.name)))) = true := by kernel_rfl
theorem refl4 : fs4.all (fun fn => !(fn.body.isNone && (opensWith (nameBytes "reflect.") (nameBytes fn.name) || opensWith (nameBytes "(reflect.") (nameBytes fn.name) || opensWith (nameBytes "(*reflect.") (nameBytes fn.name)))) = true := by kernel_rfl
theorem refl5 : fs5.all (fun fn => !(fn.body.isNone && (opensWith (nameBytes "reflect.") (nameBytes fn.name) || opensWith (nameBytes "(reflect.") (nameBytes fn.name) || opensWith (nameBytes "(*reflect.") (nameBytes fn.name)))) = true := by kernel_rfl
theorem refl6 : fs6.all (fun fn => !(fn.body.isNone && (opensWith (nameBytes "reflect.") (nameBytes fn.name) || opensWith (nameBytes "(reflect.") (nameBytes fn.name) || opensWith (nameBytes "(*reflect.") (nameBytes fn.name)))) = true := by kernel_rfl
theorem refl7 : fs7.all (fun fn => !(fn.body.isNone && (opensWith (nameBytes "reflect.") (nameBytes fn.name) || opensWith (nameBytes "(reflect.") (nameBytes fn.name) || opensWith (nameBytes "(*reflect.") (nameBytes fn.name)))) = true := by kernel_rfl
theorem refl8 : fs8.all (fun fn => !(fn.body.isNone && (opensWith (nameBytes "reflect.") (nameBytes fn.name) || opensWith (nameBytes "(reflect.") (nameBytes fn.name) || opensWith (nameBytes "(*reflect.") (nameBytes fn.name)))) = true := by kernel_rfl
theorem refl9 : fs9.all (fun fn => !(fn.body.isNone && (opensWith (nameBytes "reflect.") (nameBytes fn.name) || opensWith (nameBytes "(reflect.") (nameBytes fn.name) || opensWith (nameBytes "(*reflect.") (nameBytes fn.name)))) = true := by kernel_rfl
theorem refl10 : fs10.all (fun fn => !(fn.body.isNone && (opensWith (nameBytes "reflect.") (nameBytes fn.name) || opensWith (nameBytes "(reflect.") (nameBytes fn.name) || opensWith (nameBytes "(*reflect.") (nameBytes fn.name)))) = true := by kernel_rfl
theorem refl11 : fs11.all (fun fn => !(fn.body.isNone && (opensWith (nameBytes "reflect.") (nameBytes fn.name) || opensWith (nameBytes "(reflect.") (nameBytes fn.name) || opensWith (nameBytes "(*reflect.") (nameBytes fn.name)))) = true := by kernel_rfl
theorem refl12 : fs12.all (fun fn => !(fn.body.isNone && (opensWith (nameBytes "reflect.") (nameBytes fn.name) || opensWith (nameBytes "(reflect.") (nameBytes fn.name) || opensWith (nameBytes "(*reflect.") (nameBytes fn.name)))) = true := by kernel_rfl
theorem refl13 : fs13.all (fun fn => !(fn.body.isNone && (opensWith (nameBytes "reflect.") (nameBytes fn.name) || opensWith (nameBytes "(reflect.") (nameBytes fn.name) || opensWith (nameBytes "(*reflect.") (nameBytes fn.name)))) = true := by kernel_rfl
theorem refl14 : fs14.all (fun fn => !(fn.body.isNone && (opensWith (nameBytes "reflect.") (nameBytes fn.name) || opensWith (nameBytes "(reflect.") (nameBytes fn.name) || opensWith (nameBytes "(*reflect.") (nameBytes fn.name)))) = true := by kernel_rfl
theorem refl15 : fs15.all (fun fn => !(fn.body.isNone && (opensWith (nameBytes "reflect.") (nameBytes fn.name) || opensWith (nameBytes "(reflect.") (nameBytes fn.name) || opensWith (nameBytes "(*reflect.") (nameBytes fn.name)))) = true := by kernel_rfl
theorem refl16 : fs16.all (fun fn => !(fn.body.isNone && (opensWith (nameBytes "reflect.") (nameBytes fn.name) || opensWith (nameBytes "(reflect.") (nameBytes fn.name) || opensWith (nameBytes "(*reflect.") (nameBytes fn.name)))) = true := by kernel_rfl
theorem refl17 : fs17.all (fun fn => !(fn.body.isNone && (opensWith (nameBytes "reflect.") (nameBytes fn.name) || opensWith (nameBytes "(reflect.") (nameBytes fn.name) || opensWith (nameBytes "(*reflect.") (nameBytes fn.name)))) = true := by kernel_rfl
theorem refl18 : fs18.all (fun fn => !(fn.body.isNone && (opensWith (nameBytes "reflect.") (nameBytes fn.name) || opensWith (nameBytes "(reflect.") (nameBytes fn.name) || opensWith (nameBytes "(*reflect.") (nameBytes fn.name)))) = true := by kernel_rfl
theorem refl19 : fs19.all (fun fn => !(fn.body.isNone && (opensWith (nameBytes "reflect.") (nameBytes fn.name) || opensWith (nameBytes "(reflect.") (nameBytes fn.name) || opensWith (nameBytes "(*reflect.") (nameBytes fn.name)))) = true := by kernel_rfl
theorem refl20 : fs20.all (fun fn => !(fn.body.isNone && (opensWith (nameBytes "reflect.") (nameBytes fn.name) || opensWith (nameBytes "(reflect.") (nameBytes fn.name) || opensWith (nameBytes "(*reflect.") (nameBytes fn.name)))) = true := by kernel_rfl
theorem refl21 : fs21.all (fun fn => !(fn.body.isNone && (opensWith (nameBytes "reflect.") (nameBytes fn.name) || opensWith (nameBytes "(reflect.") (nameBytes fn.name) || opensWith (nameBytes "(*reflect.") (nameBytes fn.name)))) = true := by kernel_rfl
theorem refl22 : fs22.all (fun fn => !(fn.body.isNone && (opensWith (nameBytes "reflect.") (nameBytes fn.name) || opensWith (nameBytes "(reflect.") (nameBytes fn.name) || opensWith (nameBytes "(*reflect.") (nameBytes fn.name)))) = true := by kernel_rfl
theorem refl23 : fs23.all (fun fn => !(fn.body.isNone && (opensWith (nameBytes "reflect.") (nameBytes fn.name) || opensWith (nameBytes "(reflect.") (nameBytes fn.name) || opensWith (nameBytes "(*reflect.") (nameBytes fn.name)))) = true := by kernel_rfl
theorem refl24 : fs24.all (fun fn => !(fn.body.isNone && (opensWith (nameBytes "reflect.") (nameBytes fn.name) || opensWith (nameBytes "(reflect.") (nameBytes fn.name) || opensWith (nameBytes "(*reflect.") (nameBytes fn.name)))) = true := by kernel_rfl
theorem refl25 : fs25.all (fun fn => !(fn.body.isNone && (opensWith (nameBytes "reflect.") (nameBytes fn.name) || opensWith (nameBytes "(reflect.") (nameBytes fn.name) || opensWith (nameBytes "(*reflect.") (nameBytes fn.name)))) = true := by kernel_rfl
theorem refl26 : fs26.all (fun fn => !(fn.body.isNone && (opensWith (nameBytes "reflect.") (nameBytes fn.name) || opensWith (nameBytes "(reflect.") (nameBytes fn.name) || opensWith (nameBytes "(*reflect.") (nameBytes fn.name)))) = true := by kernel_rfl
theorem refl27 : fs27.all (fun fn => !(fn.body.isNone && (opensWith (nameBytes "reflect.") (nameBytes fn.name) || opensWith (nameBytes "(reflect.") (nameBytes fn.name) || opensWith (nameBytes "(*reflect.") (nameBytes fn.name)))) = true := by kernel_rfl
theorem refl28 : fs28.all (fun fn => !(fn.body.isNone && (opensWith (nameBytes "reflect.") (nameBytes fn.name) || opensWith (nameBytes "(reflect.") (nameBytes fn.name) || opensWith (nameBytes "(*reflect.") (nameBytes fn.name)))) = true := by kernel_rfl
theorem refl29 : fs29.all (fun fn => !(fn.body.isNone && (opensWith (nameBytes "reflect.") (nameBytes fn.name) || opensWith (nameBytes "(reflect.") (nameBytes fn.name) || opensWith (nameBytes "(*reflect.") (nameBytes fn.name)))) = true := by kernel_rfl
theorem refl30 : fs30.all (fun fn => !(fn.body.isNone && (opensWith (nameBytes "reflect.") (nameBytes fn.name) || opensWith (nameBytes "(reflect.") (nameBytes fn.name) || opensWith (nameBytes "(*reflect.") (nameBytes fn.name)))) = true := by kernel_rfl
theorem refl31 : fs31.all (fun fn => !(fn.body.isNone && (opensWith (nameBytes "reflect.") (nameBytes fn.name) || opensWith (nameBytes "(reflect.") (nameBytes fn.name) || opensWith (nameBytes "(*reflect.") (nameBytes fn.name)))) = true := by kernel_rfl
theorem refl32 : fs32.all (fun fn => !(fn.body.isNone && (opensWith (nameBytes "reflect.") (nameBytes fn.name) || opensWith (nameBytes "(reflect.") (nameBytes fn.name) || opensWith (nameBytes "(*reflect.") (nameBytes fn.name)))) = true := by kernel_rfl
theorem refl33 : fs33.all (fun fn => !(fn.body.isNone && (opensWith (nameBytes "reflect.") (nameBytes fn.name) || opensWith (nameBytes "(reflect.") (nameBytes fn.name) || opensWith (nameBytes "(*reflect.") (nameBytes fn.name)))) = true := by kernel_rfl

theorem reflect_not : Tryz.prog.bearsReflect = false := by
  unfold Program.bearsReflect
  exact not_any _ _ (all_all _ refl0 refl1 refl2 refl3 refl4 refl5 refl6 refl7 refl8 refl9 refl10 refl11 refl12 refl13 refl14 refl15 refl16 refl17 refl18 refl19 refl20 refl21 refl22 refl23 refl24 refl25 refl26 refl27 refl28 refl29 refl30 refl31 refl32 refl33)

def doorF (fn : Func) : Bool := fn.body.isNone && opensWith (nameBytes "var's door: ") (nameBytes fn.name)
theorem doo0 : fs0.filter doorF = [] := by kernel_rfl
theorem doo1 : fs1.filter doorF = [] := by kernel_rfl
theorem doo2 : fs2.filter doorF = [] := by kernel_rfl
theorem doo3 : fs3.filter doorF = [] := by kernel_rfl
theorem doo4 : fs4.filter doorF = [] := by kernel_rfl
theorem doo5 : fs5.filter doorF = [] := by kernel_rfl
theorem doo6 : fs6.filter doorF = [] := by kernel_rfl
theorem doo7 : fs7.filter doorF = [] := by kernel_rfl
theorem doo8 : fs8.filter doorF = [] := by kernel_rfl
theorem doo9 : fs9.filter doorF = [] := by kernel_rfl
theorem doo10 : fs10.filter doorF = [] := by kernel_rfl
theorem doo11 : fs11.filter doorF = [] := by kernel_rfl
theorem doo12 : fs12.filter doorF = [] := by kernel_rfl
theorem doo13 : fs13.filter doorF = [] := by kernel_rfl
theorem doo14 : fs14.filter doorF = [] := by kernel_rfl
theorem doo15 : fs15.filter doorF = [] := by kernel_rfl
theorem doo16 : fs16.filter doorF = [] := by kernel_rfl
theorem doo17 : fs17.filter doorF = [] := by kernel_rfl
theorem doo18 : fs18.filter doorF = [] := by kernel_rfl
theorem doo19 : fs19.filter doorF = [] := by kernel_rfl
theorem doo20 : fs20.filter doorF = [] := by kernel_rfl
theorem doo21 : fs21.filter doorF = [] := by kernel_rfl
theorem doo22 : fs22.filter doorF = [] := by kernel_rfl
theorem doo23 : fs23.filter doorF = [] := by kernel_rfl
theorem doo24 : fs24.filter doorF = [] := by kernel_rfl
theorem doo25 : fs25.filter doorF = [] := by kernel_rfl
theorem doo26 : fs26.filter doorF = [] := by kernel_rfl
theorem doo27 : fs27.filter doorF = [] := by kernel_rfl
theorem doo28 : fs28.filter doorF = [] := by kernel_rfl
theorem doo29 : fs29.filter doorF = [] := by kernel_rfl
theorem doo30 : fs30.filter doorF = [] := by kernel_rfl
theorem doo31 : fs31.filter doorF = [] := by kernel_rfl
theorem doo32 : fs32.filter doorF = [Tryz.f1114, Tryz.f1115, Tryz.f1116, Tryz.f1117, Tryz.f1118, Tryz.f1119, Tryz.f1120, Tryz.f1121] := by kernel_rfl
theorem doo33 : fs33.filter doorF = [Tryz.f1122, Tryz.f1123, Tryz.f1124, Tryz.f1125, Tryz.f1126, Tryz.f1127, Tryz.f1128] := by kernel_rfl

noncomputable def doors : List Func := [Tryz.f1114, Tryz.f1115, Tryz.f1116, Tryz.f1117, Tryz.f1118, Tryz.f1119, Tryz.f1120, Tryz.f1121, Tryz.f1122, Tryz.f1123, Tryz.f1124, Tryz.f1125, Tryz.f1126, Tryz.f1127, Tryz.f1128]
theorem doors_are : Tryz.prog.funcs.toList.filter doorF = doors := by
  rw [funcs_list]
  simp only [List.filter_append, doo0, doo1, doo2, doo3, doo4, doo5, doo6, doo7, doo8, doo9, doo10, doo11, doo12, doo13, doo14, doo15, doo16, doo17, doo18, doo19, doo20, doo21, doo22, doo23, doo24, doo25, doo26, doo27, doo28, doo29, doo30, doo31, doo32, doo33, List.nil_append]
  rfl

theorem rows_are : Tryz.prog.doorRows = doors.map fun fn => (nameBytes fn.name).reverse := by
  unfold Program.doorRows
  exact congrArg (List.map _) doors_are

theorem door_at : (let rows := doors.map fun fn => (nameBytes fn.name).reverse
    let lifts : List String := []
  !((rows.any fun n => ["(look 8)", "(look 8, test files too)", "(list 7)", "(look 7)"].any (endsIn · n)) &&
    (lifts.contains "libbeside" || lifts.contains "reflbeside" || lifts.contains "aliases" || lifts.contains "afterinit" || lifts.contains "crcplain" ||
     rows.any fun n => ["(look 11)", "(look 11, test files too)", "(list 10)", "(look 11-elder)", "(handle 1)", "(map 1)", "(funcs 1)", "(called 1)", "(data 2)", "(zero 1)", "(deep 1)", "(pinned 1)"].any (endsIn · n))) &&
  (rows.isEmpty || !(lifts.contains "ownunsafe" || lifts.contains "roadunsafe") || lifts.contains "libbeside") &&
  (lifts.contains "ownunsafe" || !lifts.contains "libbeside") && (lifts.contains "libbeside" || !lifts.contains "ownbeside")) = true := by kernel_rfl

theorem door_fits : Tryz.prog.doorFits [] = true := by
  unfold Program.doorFits
  rw [rows_are]
  exact door_at

theorem may_of (P : Program) (rest : List (List Char)) (h : behindMainWord (wordsSigns P.initOrder.toList) = "cut".toList :: rest) (h2 : stripLifts liftWords ("cut".toList :: rest) = ([], "cut".toList :: rest)) (h3 : P.laysLater = false) (h4 : P.bearsReflect = false) (h5 : P.doorFits [] = true) : P.mayEnter = true := by
  unfold Program.mayEnter
  rw [h]
  dsimp only
  rw [h2, h3, h4]
  simp [h5]

theorem may_enter : Tryz.prog.mayEnter = true :=
  may_of Tryz.prog ["at".toList, "dumbwaiter/dumblaw2.ShardsBalances".toList] (by kernel_rfl) (by kernel_rfl) later_not reflect_not door_fits

end Go.Proofs.YtpmjkpdkkckoaaaGreatDoor.shardsBalances
