/- ShardsBalances, the card: package shards moves loads between shards as specified, for all loads and homes. No condition but that the listed variables of Go's library lie as the program's text lays them. -/
import Derived.Test.YtpmjkpdkkckoaaaGreatDoorSbLaw
import Derived.Test.YtpmjkpdkkckoaaaGreatDoorSbWit
import Derived.Test.YtpmjkpdkkckoaaaGreatDoorCards
import Derived.Lib.SmallJoins
import Derived.ChangeSlices
import Derived.Lib.LaidTab
import Derived.ProofKit
import Derived.OpenShut
import Derived.LaidMore
import Derived.Lay
import Derived.SevenTiedAt
namespace Go.Proofs
open Go.ChangeShapes Go.WideShapes Go.Deep Go.RowKit

theorem cell_lt {W : World} {a : Addr} {v : Value} (h : W.cell? a = some v) : a.block < W.heap.size ∧ a.spot = none := by
  unfold World.cell? at h
  split at h
  · rename_i hc
    have := (Array.getElem?_eq_some_iff.1 hc).1
    split at h
    · cases h
    · rename_i hs
      exact ⟨this, by simpa using hs⟩
  · cases h

theorem add_none (ab ao n : Nat) : (⟨ab, ao, none⟩ : Addr).add n = ⟨ab, ao + n, none⟩ := by
  unfold Addr.add
  split
  · rename_i h; subst h; rfl
  · rfl

set_option maxRecDepth 100000 in
theorem intsAt_of {H : Type} {enc : TypeId × Value → H} {W : World} {r : Reach} {b0 : Nat} {held : Bool} {v : Value} {d : DataW H} {p : List MemPlace} (hv : Value.okWide Tryz.prog W r b0 22 v) (h : DataW.Trod enc Tryz.prog W 0 (fun _ => true) held 22 v d p) :
    ∃ ad, ∃ l : List Int, ∃ cap, v = .slice ad l.length cap ∧ IntsAt W W.heap.size ad l ∧ l.length ≤ 9223372036854775807 := by
  obtain ⟨a, len, cap, rfl⟩ := okWide_slice Tryz.underlying22 hv
  obtain ⟨fuel, hf⟩ := h
  rcases open_ints Tryz.underlying22 Tryz.underlying3 (by kernel_rfl) hf with ⟨h0, _⟩ | ⟨a', len', cap', zs, hcs, hb, hl, hm, hzl, hx, hc, hw⟩
  · simp only [Value.cells, List.cons.injEq, Value.slice.injEq, and_true] at h0
    obtain ⟨rfl, rfl, rfl⟩ := h0
    exact ⟨none, [], 0, rfl, fun i hi => by simp at hi, by simp⟩
  · simp only [Value.cells, List.cons.injEq, Value.slice.injEq, and_true] at hcs
    obtain ⟨rfl, rfl, rfl⟩ := hcs
    simp only [if_true] at hzl
    have hln : (zs.take len).length = len := by simp; omega
    refine ⟨some a', zs.take len, cap, by rw [hln], ?_, by rw [hln]; unfold maxLen at hm; omega⟩
    intro i hi
    rw [hln] at hi
    have z0 := hc 0 (by omega)
    have ci := hc i (by omega)
    have hwi := hw zs[i] (List.getElem_mem (by omega))
    obtain ⟨ab, ao, asp⟩ := a'
    have hs := cell_lt z0
    have hs2 : asp = none := hs.2
    subst hs2
    rw [add_none] at ci
    have e : zs.getD i 0 = zs[i] := by simp [List.getD, show i < zs.length by omega]
    rw [e] at ci
    refine ⟨ab, ao, rfl, hs.1, ?_, ?_⟩
    · simpa using ci
    · simp only [List.getElem_take]
      unfold Lit.wf at hwi
      simp only [Bool.and_eq_true, decide_eq_true_eq] at hwi
      have e1 : IntKind.i64.min = -9223372036854775808 := by decide
      have e2 : IntKind.i64.max = 9223372036854775807 := by decide
      rw [e1, e2] at hwi
      exact hwi

end Go.Proofs
namespace Go.Proofs.YtpmjkpdkkckoaaaGreatDoor.keeps
open Go.ChangeShapes Go.WideShapes Go.ChangeAt Go.RowKit Go.Joins

theorem own : ownKnob Tryz.prog.godebug = none := by kernel_rfl
theorem laidOut : laidOutB Tryz.prog = true := Go.Proofs.Big.laid_out

set_option maxRecDepth 100000 in
/-- What a row's list gives: a table. -/
theorem tab_of {W : World} {l : List (String × DataW Unit)} {nm : String} {g : Nat} {t e : TypeId} {n : Nat} {k : IntKind} {zs : List Int} (h : laidMet Tryz.prog l W) (hm : (nm, Lib.tabData k zs) ∈ l)
    (hg' : Tryz.prog.globalNamed nm = some g) (ht' : (Tryz.prog.globals[g]?).map (·.type) = some t) (hu : Tryz.prog.underlying t = some (.array n e)) (he : Tryz.prog.underlying e = some (.int k))
    (hce : Tryz.prog.cellsOf e = 1) (hct : Tryz.prog.cellsOf t = n) : Lib.TabIs Tryz.prog W nm k zs := by
  obtain ⟨ps, hv, _, _⟩ := h
  have key : ∀ {l : List (String × DataW Unit)} {ps : List MemPlace}, DataW.LaidVars Tryz.prog W l ps → (nm, Lib.tabData k zs) ∈ l → Lib.TabIs Tryz.prog W nm k zs := by
    intro l
    induction l with
    | nil => intro ps _ hm; cases hm
    | cons x l ih =>
      intro ps hv hm
      obtain ⟨nm', d⟩ := x
      obtain ⟨g2, t2, cs, fuel, p, q, hg, ht, hvar, hd, hrest, _⟩ := hv
      rcases List.mem_cons.mp hm with e | hm
      · cases e
        obtain rfl := Option.some.inj (hg'.symm.trans hg)
        obtain rfl := Option.some.inj (ht'.symm.trans ht)
        unfold Lib.TabIs
        rw [hvar, ← Lib.cells_of_tab hu he hce hct hd]
      · exact ih hrest hm
  exact key hv hm

theorem space_of {W : World} {l : List (String × DataW Unit)} (h : laidMet Tryz.prog l W) (hm : ("strings.asciiSpace", Lib.tabData .u8 Lib.asciiSpaceTab) ∈ l) : Lib.TabIs Tryz.prog W "strings.asciiSpace" .u8 Lib.asciiSpaceTab :=
  tab_of (g := 4) (t := 391) h hm (by kernel_rfl) (by kernel_rfl) Tryz.underlying391 Tryz.underlying5 (by kernel_rfl) (by kernel_rfl)

theorem pow_of {W : World} {l : List (String × DataW Unit)} (h : laidMet Tryz.prog l W) (hm : ("internal/strconv.uint64pow10", Lib.tabData .u64 Lib.pow10Tab) ∈ l) : Lib.TabIs Tryz.prog W "internal/strconv.uint64pow10" .u64 Lib.pow10Tab :=
  tab_of (g := 3) (t := 397) h hm (by kernel_rfl) (by kernel_rfl) Tryz.underlying397 Tryz.underlying51 (by kernel_rfl) (by kernel_rfl)

theorem post_of_below {H : Type} {enc : TypeId × Value → H} {P : Program} {f : Func} {s : ChangeSpec} {apart fresh handsOn : Bool} {W W' : World} {args : Array Value} {v : Value} {ds gs : List (DataW H)} {before pa pv : List MemPlace}
    (hW : DataW.Whole enc P f.params.toList s.vars apart W args.toList ds gs before) (hb : Below W.heap.size W W')
    (hres : ∀ (b : Nat) (sp : Nat → Bool) (hd : Bool), DataW.TrodAll enc P W' b sp hd f.resultTypes.toList (v.resultList f.resultTypes.size) (s.fn H (ds ++ gs)).results [])
    (hargs : DataW.TrodAll enc P W' 0 (fun b => decide (b < W.heap.size)) true f.params.toList args.toList (s.fn H (ds ++ gs)).args pa)
    (hvars : DataW.TrodVars enc P W' (fun b => decide (b < W.heap.size)) s.vars (s.fn H (ds ++ gs)).vars pv) : s.post enc P f apart fresh handsOn false W args v W' :=
  ⟨ds, gs, before, [], pa, pv, hW, hres _ _ _, hargs, hvars, hb.frame _, fun h => by cases h⟩

end Go.Proofs.YtpmjkpdkkckoaaaGreatDoor.keeps
namespace Go.Proofs.YtpmjkpdkkckoaaaGreatDoor.shardsBalances
open Go.ChangeShapes Go.WideShapes Go.ChangeAt Go.RowKit Go.Joins keeps

set_option maxRecDepth 100000 in
theorem lifted (os : Os) (started : os.Started) (H : Type) (enc : TypeId × Value → H) :
    ReturnsInHanded {} Tryz.checked os 3 .any (fun w args => (Rows.shardsBalancesSpec.pre enc Tryz.prog Tryz.f3 Rows.shardsBalancesRow.domain false w args ∧ laidMetH Tryz.prog Rows.shardsBalancesRow.laid w) ∧ sizedMet enc Tryz.prog Tryz.f3 (OpenSpec.ofChange Rows.shardsBalancesSpec) false w args)
      (Rows.shardsBalancesSpec.post enc Tryz.prog Tryz.f3 false true false false) := by
  refine returnsInHanded_of_change_and (C := Tryz.checked) (X := fun w _ => laidMetH Tryz.prog Rows.shardsBalancesRow.laid w) (fun _ _ _ hh h => h.of_heap hh) own started no_init Tryz.func3
    (ChangeSpec.witness_shaped (enc := enc) (C := Tryz.checked) (os := os) (X := fun w _ => laidMetH Tryz.prog Rows.shardsBalancesRow.laid w) false (Go.Proofs.Big.wit os) #[.slice none 0 0] 8 (w_os os)
      (World.shaped_of_ZipB (w_zip os) (w_rows os)) (w_ok os) (w_pre os H enc) (w_sized os H enc) (w_laid os)) ?_
  intro W base args ds gs before hval0 hW hc _ hL _
  have hval : ∀ (j : Nat) t v, Tryz.f3.params[j]? = some t → args[j]? = some v → Value.okWide Tryz.prog W .any base t v := hval0
  have hW' := hW
  obtain ⟨p, q, hA0, hV, rfl, _, _⟩ := hW
  have hA : DataW.TrodAll enc Tryz.prog W 0 (fun _ => true) true Tryz.f3.params.toList args.toList ds p := hA0
  rw [Tryz.params3] at hA hval
  obtain ⟨v0, d0, rfl, rfl, h0⟩ := trodAll_one hA
  obtain ⟨rfl, rfl⟩ := trodVars_none hV
  obtain ⟨ad, zs, cap, rfl, hz, hl⟩ := intsAt_of (hval 0 22 v0 rfl rfl) h0
  rw [MakeChecks.laidMetH_plain _ _ _ w_plain] at hL
  have htab := space_of hL (List.mem_of_getElem? (i := 5) (by kernel_rfl))
  have hpow := pow_of hL (List.mem_of_getElem? (i := 2) (by kernel_rfl))
  refine (Tryz.sbLaw ad cap zs W hz hl htab hpow).mono fun e W' ⟨he, hbw⟩ => ?_
  subst he
  refine ⟨_, rfl, post_of_below (pa := p) (pv := []) hW' hbw (fun _ _ _ => trodAll_mk1 (shut_bool Tryz.underlying4 _)) ?_ rfl⟩
  exact trodAll_mk1 (Below.trod laidOut (by kernel_rfl) (of_decide_eq_true (by kernel_rfl)) h0 hbw (fun x hx => hW'.lt x (by simp [hx])))

end Go.Proofs.YtpmjkpdkkckoaaaGreatDoor.shardsBalances
